/- The abstract machine: AM51: drawn regions with one loud operation and a variable boxed aside: the steps. -/
import Derived.Test.YtgdjnlopdpjnaaaGreatDoorAmG
set_option linter.unusedSectionVars false
set_option linter.unusedVariables false
set_option linter.unusedSimpArgs false
namespace Go.AM
open Go.RowKit
def Bx.at (C : Bx) : Bool → St
  | false => C.A
  | true => C.B
theorem Bx.at_or (C : Bx) (q : Bool) : C.at q = C.A ∨ C.at q = C.B := by cases q <;> simp [Bx.at]
def VX (T : Tb) (Q : Z41) (C : Bx) (j : Nat) (l : List POp) (kill : List Nat) (fr : List Fr) (e : EC) (q b : Bool) : Prop :=
  ∀ ρ, Sub e ρ → ∃ ρ1 st1, T.R (.dlb C j l ρ (C.at q) b ρ1 st1 true) ∧ st1.next = C.N ∧ (∀ t ∈ C.D, Z9 t ρ1 = some (.ptr C.N 0)) ∧ W T Q fr .normal (Z2l kill ρ1) (st1.new (.var C.cs))
section
variable {T : Tb} {Q : Z41} {C : Bx} {j : Nat} {k : List Fr} {l : List POp} {kill : List Nat} {ρ : EC} {q b : Bool}
theorem V_X (C : Bx) {st : St} {x : EX} {k' : List Fr} (hS : C.A = st) (hA : C.A.next ≤ C.N) (hB : C.B.next ≤ C.N) (ha : Zm 200 k x = (.code (.drawn l kill) :: k', .normal)) (h : VX T Q C 0 l kill k' ρ false false) : V T Q k x ρ st := by
  subst hS
  refine Z34 ha fun r hr => ?_
  obtain ⟨ρ1, st1, h1, h2, h3, h4⟩ := h r hr
  exact ⟨_, _, _, .drawnB _ _ _ _ _ _ hA hB h2 h3 h1, h4⟩
theorem X_nil {st : St} (hS : C.at q = st) (hN : st.next = C.N) (hD : ∀ t ∈ C.D, ρ.get t = some (.ptr C.N 0)) (h : V T Q k .normal (.drop kill ρ) (st.new (.var C.cs))) : VX T Q C j [] kill k ρ q true := fun r hr => by
  subst hS
  exact ⟨_, _, .dlbNil _ _ _ _ _, hN, fun t ht => hr _ _ (hD t ht), h _ (hr.drop kill)⟩
theorem X_look {d : Option Nat} {op : PI} {p : PV} (hx : Nat.beq j C.m = false) (hw : C.away ⟨d, none, op⟩ = true) (hA : Zj C.A.get ρ op = some p) (hB : Zj C.B.get ρ op = some p) (h : VX T Q C (j + 1) l kill k (ρ.sets d p) q b) : VX T Q C j (⟨d, none, op⟩ :: l) kill k ρ q b := fun r hr => by
  obtain ⟨ρ1, st1, h1, h2⟩ := h _ (hr.sets d p)
  exact ⟨_, _, .dlbQuiet _ _ _ _ _ _ _ p _ _ _ (Nat.ne_of_beq_eq_false hx) hw (C.at_or q) rfl (fun s hs => by rcases hs with rfl | rfl; exact Z0r hr hA; exact Z0r hr hB) h1, h2⟩
theorem Z2e {d : Option Nat} {op : PI} {p : PV} (hx : Nat.beq j C.m = false) (hw : C.away ⟨d, none, op⟩ = true) (hq : ∀ look, Zj look ρ op = some p) (h : VX T Q C (j + 1) l kill k (ρ.sets d p) q b) : VX T Q C j (⟨d, none, op⟩ :: l) kill k ρ q b := X_look hx hw (hq _) (hq _) h
theorem Z51 {d : Option Nat} {a : Opd} {t off : Nat} {cs : List PV} {c : PV} (hx : Nat.beq j C.m = false) (hw : C.away ⟨d, none, .load 1 false a⟩ = true) (ha : a.get ρ = some (.ptr t off)) (hA : C.A.get t = some (.var cs)) (hB : C.B.get t = some (.var cs)) (hc : cs[off]? = some c) (h : VX T Q C (j + 1) l kill k (ρ.sets d c) q b) : VX T Q C j (⟨d, none, .load 1 false a⟩ :: l) kill k ρ q b := by
  have key : ∀ s : St, s.get t = some (.var cs) → Zj s.get ρ (.load 1 false a) = some c := fun s hs => by
    have hlt := (List.getElem?_eq_some_iff.1 hc).1
    simp only [Zj, Z5e, ha, loadAt, behind, hs, Option.bind_some, slice?]
    rw [if_pos (by omega)]
    simpa using hc
  exact X_look hx hw (key _ hA) (key _ hB) h
theorem Z52 {d : Option Nat} {a : Opd} {t n : Nat} {cs : List PV} (hx : Nat.beq j C.m = false) (hw : C.away ⟨d, none, .load n true a⟩ = true) (ha : a.get ρ = some (.ptr t 0)) (hA : C.A.get t = some (.var cs)) (hB : C.B.get t = some (.var cs)) (hl : cs.length = n) (h : VX T Q C (j + 1) l kill k (ρ.sets d (.agg cs)) q b) : VX T Q C j (⟨d, none, .load n true a⟩ :: l) kill k ρ q b := by
  have key : ∀ s : St, s.get t = some (.var cs) → Zj s.get ρ (.load n true a) = some (.agg cs) := fun s hs => by
    simp only [Zj, Z5e, ha, loadAt, behind, hs]
    subst hl
    simp [slice?]
  exact X_look hx hw (key _ hA) (key _ hB) h
theorem X_raw {d : Option Nat} {f : Opd} {xs : List Opd} {g : Nat} {caps vals : List PV} (q τ : List (Nat × Tok)) {r : PV} {st1 : St} (hx : Nat.beq j C.m = true) (hw : C.away ⟨d, none, .call f xs⟩ = true) (hf : f.get ρ = some (.func g caps)) (hxs : Zgy ρ xs = some vals) (hp : Z87 C.A q τ) (hb : st1.base = C.A.next) (hc : T.R (.raw g (vals ++ caps) (Z24 C.A τ) r st1)) (hB : C.B = Z1g C.A q st1) (h : VX T Q C (j + 1) l kill k (ρ.sets d r) true b) : VX T Q C j (⟨d, none, .call f xs⟩ :: l) kill k ρ false b := fun e he => by
  have hj := Nat.eq_of_beq_eq_true hx
  subst hj
  obtain ⟨ρ1, st2, h1, h2⟩ := h _ (he.sets d r)
  exact ⟨_, _, .dlbRaw _ _ _ _ _ _ _ _ _ q τ _ _ _ _ _ hw rfl rfl (Opd.ev_of he hf) hp hb hB (by rw [Z3p he hxs]; exact hc) h1, h2⟩
theorem X_rawAll {d : Option Nat} {f : Opd} {xs : List Opd} {g : Nat} {caps vals : List PV} {r : PV} {A st1 : St} (hx : Nat.beq j C.m = true) (hw : C.away ⟨d, none, .call f xs⟩ = true) (hf : f.get ρ = some (.func g caps)) (hxs : Zgy ρ xs = some vals) (hA : C.A = A) (hc : T.R (.raw g (vals ++ caps) ⟨A.next, A.next, A.toks⟩ r st1)) (hb : st1.base = A.next) (hB : C.B = ⟨A.base, st1.next, st1.toks⟩) (h : VX T Q C (j + 1) l kill k (ρ.sets d r) true b) : VX T Q C j (⟨d, none, .call f xs⟩ :: l) kill k ρ false b := by
  subst hA
  exact X_raw [] C.A.toks hx hw hf hxs (fun t => ⟨rfl, .inl rfl⟩) hb hc hB h
theorem Zgz {d : Nat} {x : Opd} {p : PV} (hd : Nat.beq d C.d = true) (hdD : C.D.contains C.d = true) (hx : x.tmps.all (fun t => !(C.D.contains t)) = true) (hp : x.get ρ = some p) (hj : p.isJunk = false) (hcs : p.cells = C.cs) (hpl : ∀ c ∈ C.cs, Pl c) (h : VX T Q C (j + 1) l kill k (ρ.sets (some d) (.ptr C.N 0)) q true) : VX T Q C j (⟨some d, none, .box x⟩ :: l) kill k ρ q false := fun r hr => by
  have hdd := Nat.eq_of_beq_eq_true hd
  subst hdd
  obtain ⟨ρ1, st1, h1, h2⟩ := h _ (hr.sets (some C.d) _)
  have he := Opd.ev_of hr hp
  exact ⟨_, _, .dlbBox _ _ _ _ _ _ x _ _ _ (C.at_or q) rfl rfl (by simpa using hdD) rfl (fun t ht hD => by have := List.all_eq_true.1 hx t ht; simp [hD] at this) (by rw [he]; exact hj) (by rw [he]; exact hcs) (fun look c hc => (hpl c hc).view) h1, h2⟩
theorem Z94 {e d : Nat} (heD : C.D.contains e = true) (hne : Nat.beq e C.d = false) (hdD : C.D.contains C.d = true) (hd : Nat.beq d C.d = true) (hy : ρ.get C.d = some (.ptr C.N 0)) (h : VX T Q C (j + 1) l kill k (ρ.sets (some e) (.ptr C.N 0)) q true) : VX T Q C j (⟨some e, none, .move (.t d)⟩ :: l) kill k ρ q true := fun r hr => by
  have hdd := Nat.eq_of_beq_eq_true hd
  subst hdd
  obtain ⟨ρ1, st1, h1, h2⟩ := h _ (hr.sets (some e) _)
  exact ⟨_, _, .dlbMove _ _ _ _ _ _ e _ _ _ (C.at_or q) rfl rfl (by simpa using heD) (Nat.ne_of_beq_eq_false hne) (by simpa using hdD) rfl (hr _ _ hy) h1, h2⟩
end
end Go.AM

/- The abstract machine: AM35: bytes appended to a row of one's own, whatever its place; a variable written whole; the slice of an array. · AM36: calls that are handed what is one's own: what they leave alone. · AM37: a variable of one's own, read in a drawn region with one loud operation. · AM38: readings of byte slices. · AM39: drawn regions with two loud operations, the later of which looks at what the first answers: the steps. · AM40: steps whose answer is said otherwise. · AM41: a call that is handed what is one's own, which is no longer changed behind it. · AM42: calls and ends whose plain values need no word. -/
import Derived.Test.YtfdebgebnkbagaaDoorAmE
set_option linter.unusedSectionVars false
set_option linter.unusedVariables false
set_option linter.unusedSimpArgs false
namespace Go.AM
open Go.RowKit
theorem storeAt_whole {st : St} {t : Nat} {cs ds : List PV} (hg : st.get t = some (.var cs)) (hl : cs.length = ds.length) : storeAt st (.ptr t 0) (.agg ds) = some (st.put t (.var ds)) := by
  have h0 : (PV.agg ds).cells = ds := rfl
  simp only [storeAt, hg]
  rw [if_pos (by rw [h0]; omega), h0]
  simp [splice, ← hl]
theorem elems_vslB {look : Nat → Option Tok} {t : Nat} {s : List UInt8} (hg : look t = some (.var (s.map fun b => .int .u8 b.toNat))) : elemsOf look (.vsl t 0 1 s.length) = some (byteCells s) := by
  simp only [elemsOf, hg]
  rw [if_pos (by simp)]
  congr 1
  apply List.ext_getElem?
  intro i
  by_cases hi : i < s.length
  · rw [List.getElem?_map, List.getElem?_range hi]
    simp only [Option.map_some, byteCells, List.getElem?_map]
    rw [List.getElem?_eq_getElem hi]
    simp only [Option.map_some, Nat.zero_add, Nat.mul_one]
    congr 1
    apply List.ext_getElem?
    intro j
    rw [List.getElem?_take]
    by_cases hj : j < 1
    · have : j = 0 := by omega
      subst this
      simp [hi]
    · rw [if_neg hj, List.getElem?_eq_none (by simp; omega)]
  · rw [List.getElem?_eq_none (by simp; omega), List.getElem?_eq_none (by simp [byteCells]; omega)]
theorem appB {st : St} {t g : Nat} {b c : List UInt8} (hg : st.get t = some (.row g 1 (byteCells b) true)) (hc : c ≠ []) (hr : b.length + c.length ≤ roomLen) :
    appendTo st 1 1 (.osl t g 0 (byteCells b).length false) (byteCells c) = some (.osl t (g + 1) 0 (byteCells (b ++ c)).length false, st.put t (.row (g + 1) 1 (byteCells (b ++ c)) true)) := by
  rw [appendTo_own (by simpa [byteCells] using hc) hg (by simp only [byteCells_length]; omega), byteCells_append, List.length_append]
theorem appN {st : St} {c : List UInt8} (hc : c ≠ []) (hr : c.length ≤ roomLen) :
    appendTo st 1 1 .nilSl (byteCells c) = some (.osl st.next 0 0 (byteCells c).length false, st.new (.row 0 1 (byteCells c) true)) := by
  rw [appendTo_nil (by simpa [byteCells] using hc) (by simp only [byteCells_length]; omega)]
theorem appE {st : St} {t g n : Nat} {f : Bool} : appendTo st 1 1 (.osl t g 0 n f) (byteCells []) = some (.osl t g 0 n f, st) := appendTo_none (.inr (.inr ⟨_, _, _, _, _, rfl⟩))
end Go.AM
set_option linter.unusedVariables false
set_option linter.unusedSimpArgs false
namespace Go.AM
open Go.RowKit
theorem St.get_new {st : St} {k : Tok} : (st.new k).get st.next = some k := by simp [St.get, St.new, getA_putA]
theorem St.get_new_old {st : St} {k : Tok} {u : Nat} (h : u < st.next) : (st.new k).get u = st.get u := by
  simp only [St.get, St.new, getA_putA]
  rw [if_neg (by omega)]
theorem St.get_put {st : St} {t : Nat} {k : Tok} : (st.put t k).get t = some k := by simp [St.get, St.put, getA_putA]
theorem St.get_put_old {st : St} {t u : Nat} {k : Tok} (h : t ≠ u) : (st.put t k).get u = st.get u := by
  simp only [St.get, St.put, getA_putA]
  rw [if_neg h]
def Grow (st : St) (v : PV) (st' : St) (v' : PV) : Prop := st'.base = st.base ∧ st.next ≤ st'.next ∧ (tokOf v' = tokOf v ∨ ∃ n, tokOf v' = some n ∧ st.next ≤ n) ∧ ∀ u, u < st.next → tokOf v ≠ some u → st'.get u = st.get u
theorem Grow.refl (st : St) (v : PV) : Grow st v st v := ⟨rfl, Nat.le_refl _, .inl rfl, fun _ _ _ => rfl⟩
theorem Grow.trans {st st1 st2 : St} {v v1 v2 : PV} (h : Grow st v st1 v1) (k : Grow st1 v1 st2 v2) : Grow st v st2 v2 := by
  obtain ⟨a1, a2, a3, a4⟩ := h
  obtain ⟨b1, b2, b3, b4⟩ := k
  refine ⟨b1.trans a1, Nat.le_trans a2 b2, ?_, fun u hu hv => ?_⟩
  · rcases b3 with b3 | ⟨n, b3, b5⟩
    · rcases a3 with a3 | ⟨n, a3, a5⟩
      · exact .inl (b3.trans a3)
      · exact .inr ⟨n, b3.trans a3, a5⟩
    · exact .inr ⟨n, b3, by omega⟩
  · rw [b4 u (by omega) ?_, a4 u hu hv]
    rcases a3 with a3 | ⟨n, a3, a5⟩
    · rw [a3]; exact hv
    · rw [a3]; intro e; injection e; omega
theorem AccT.grow {sz bytes : Nat} {st : St} {v : PV} {es src : List (List PV)} (h : AccT sz st v es) (hne : src ≠ []) (hr : (es.length + src.length) * bytes ≤ roomLen) :
    ∃ v' st', appendTo st sz bytes v src = some (v', st') ∧ AccT sz st' v' (es ++ src) ∧ Grow st v st' v' := by
  obtain ⟨v', st', h1, h2, h3, h4, h5, h6⟩ := h.append hne hr
  refine ⟨v', st', h1, h2, h3, h4, ?_, fun u hu hv => h6 u ?_⟩
  · rcases h5 with h5 | ⟨_, h5⟩
    · exact .inl h5
    · exact .inr ⟨_, h5, Nat.le_refl _⟩
  · rcases h5 with h5 | ⟨_, h5⟩
    · rw [h5]; exact hv
    · rw [h5]; intro e; injection e; omega
theorem AccT.none_fresh {sz : Nat} {st st' : St} {v' : PV} {es : List (List PV)} (h : Grow st .nilSl st' v') (ha : AccT sz st' v' es) (hne : es ≠ []) : ∃ t, tokOf v' = some t ∧ st.next ≤ t := by
  rcases h.2.2.1 with h3 | ⟨n, h3, h4⟩
  · rcases ha with ⟨_, h5⟩ | ⟨t, g, rfl, _, _⟩
    · exact absurd h5 hne
    · cases h3
  · exact ⟨n, h3, h4⟩
def RB (st : St) (v : PV) (s : List UInt8) : Prop := (v = .nilSl ∧ s = []) ∨ (∃ f, v = .sl (byteCells s) f) ∨ ∃ t g lv, v = .osl t g 0 (byteCells s).length false ∧ st.get t = some (.row g 1 (byteCells s) lv) ∧ t < st.next
theorem BV.rb {v : PV} {s : List UInt8} (h : BV v s) (st : St) : RB st v s := by
  cases h with
  | nil => exact .inl ⟨rfl, rfl⟩
  | sl s f => exact .inr (.inl ⟨f, rfl⟩)
theorem AccT.rb {st : St} {v : PV} {s : List UInt8} (h : AccT 1 st v (byteCells s)) : RB st v s := by
  rcases h with ⟨rfl, h⟩ | ⟨t, g, rfl, hg, hlt⟩
  · exact .inl ⟨rfl, by simpa [byteCells] using h⟩
  · exact .inr (.inr ⟨t, g, true, rfl, hg, hlt⟩)
theorem RB.src {st : St} {v : PV} {s : List UInt8} (h : RB st v s) : srcOf st v = some (byteCells s) := by
  rcases h with ⟨rfl, rfl⟩ | ⟨f, rfl⟩ | ⟨t, g, lv, rfl, hg, _⟩
  · rfl
  · rfl
  · simp only [srcOf, elemsOf, hg]
    rw [if_pos ⟨trivial, by omega⟩]
    simp
theorem RB.keep {st st' : St} {v : PV} {s : List UInt8} (h : RB st v s) (hn : st.next ≤ st'.next) (hk : ∀ u, tokOf v = some u → st'.get u = st.get u) : RB st' v s := by
  rcases h with ⟨rfl, rfl⟩ | ⟨f, rfl⟩ | ⟨t, g, lv, rfl, hg, hlt⟩
  · exact .inl ⟨rfl, rfl⟩
  · exact .inr (.inl ⟨f, rfl⟩)
  · exact .inr (.inr ⟨t, g, lv, rfl, by rw [hk t rfl]; exact hg, by omega⟩)
theorem RB.lt {st : St} {v : PV} {s : List UInt8} (h : RB st v s) {u : Nat} (hu : tokOf v = some u) : u < st.next := by
  rcases h with ⟨rfl, rfl⟩ | ⟨f, rfl⟩ | ⟨t, g, lv, rfl, hg, hlt⟩
  · cases hu
  · cases hu
  · injection hu with hu; omega
def EndsRQ (pf : PF) (Q : PV → St → Prop) : Post := fun x ρ st => (x = .normal ∨ x = .ret) ∧ ∃ r, resOf ρ st.get pf.results = some r ∧ Q r st
section
variable {T : Tb} {k : List Fr} {ρ : EC} {st : St} {l : List POp} {kill : List Nat}
theorem raw_VQ {f : Nat} {pf : PF} {args : List PV} {Q : PV → St → Prop} (hf : T.tbl f = some pf) (hn : Nat.ble args.length pf.ntmps = true) (h : V T (EndsRQ pf Q) [.code pf.body] .normal (ecFrom 0 args) st) : ∃ r st', T.R (.raw f args st r st') ∧ Q r st' := by
  obtain ⟨x, ρ, st1, h1, hx, r, h2, h3⟩ := h _ (sub_from 0 args)
  exact ⟨r, st1, .raw _ _ _ _ _ _ _ _ hf (Nat.le_of_ble_eq_true hn) h1 hx h2, h3⟩
theorem V_finRQ {pf : PF} {Q : PV → St → Prop} {r : PV} {x : EX} (ha : adv 200 k x = ([], .ret)) (hr : resG ρ st.get pf.results = some r) (hq : Q r st) : V T (EndsRQ pf Q) k x ρ st := V_end ha fun e he => ⟨.inr rfl, r, resG_eq he hr, hq⟩
theorem O_rawAll {Q : Post} {d : Option Nat} {f : Opd} {xs : List Opd} {g : Nat} {caps vals : List PV} {r : PV} {st1 : St} (hc : T.R (.raw g (vals ++ caps) ⟨st.next, st.next, st.toks⟩ r st1)) (hb : st1.base = st.next) (hf : f.get ρ = some (.func g caps)) (hx : gets ρ xs = some vals) (h : VO T Q l kill k (ρ.sets d r) ⟨st.base, st1.next, st1.toks⟩) : VO T Q (⟨d, none, .call f xs⟩ :: l) kill k ρ st :=
  O_rawP [] st.toks hf hx (fun t => ⟨rfl, .inl rfl⟩) hb hc h
theorem O_loadV {Q : Post} {d : Option Nat} {a : Opd} {t off : Nat} {cs : List PV} {c : PV} (ha : a.get ρ = some (.ptr t off)) (hg : st.get t = some (.var cs)) (hc : cs[off]? = some c) (h : VO T Q l kill k (ρ.sets d c) st) : VO T Q (⟨d, none, .load 1 false a⟩ :: l) kill k ρ st :=
  O_step (by
    have hlt := (List.getElem?_eq_some_iff.1 hc).1
    simp only [stepQ, get1, ha, loadAt, behind, hg, Option.bind_some, slice?]
    rw [if_pos (by omega)]
    simpa using hc) h
end
end Go.AM
set_option linter.unusedVariables false
set_option linter.unusedSimpArgs false
namespace Go.AM
open Go.RowKit
section
variable {T : Tb} {Q : Post} {k : List Fr} {ρ : EC} {st A B : St} {l : List POp} {kill : List Nat} {m j : Nat}
theorem M_loadP {d : Option Nat} {a : Opd} {t n : Nat} {cs : List PV} (hk : Nat.beq j m = false) (hst : st = A ∨ st = B) (ha : a.get ρ = some (.ptr t 0)) (hgA : A.get t = some (.var cs)) (hgB : B.get t = some (.var cs)) (hl : cs.length = n) (h : VM T Q m A B (j + 1) l kill k (ρ.sets d (.agg cs)) st) : VM T Q m A B j (⟨d, none, .load n true a⟩ :: l) kill k ρ st := by
  have key : ∀ s : St, s.get t = some (.var cs) → stepQ s.get ρ (.load n true a) = some (.agg cs) := fun s hs => by
    simp only [stepQ, get1, ha, loadAt, behind, hs]
    subst hl
    simp [slice?]
  exact M_step hk hst (key A hgA) (key B hgB) h
theorem M_rawAll {d : Option Nat} {f : Opd} {xs : List Opd} {g : Nat} {caps vals : List PV} {r : PV} {st1 : St} (hc : T.R (.raw g (vals ++ caps) ⟨A.next, A.next, A.toks⟩ r st1)) (hb : st1.base = A.next) (hk : Nat.beq j m = true) (hf : f.get ρ = some (.func g caps)) (hx : gets ρ xs = some vals) (hB : (⟨A.base, st1.next, st1.toks⟩ : St) = B) (h : VM T Q m A B (j + 1) l kill k (ρ.sets d r) B) : VM T Q m A B j (⟨d, none, .call f xs⟩ :: l) kill k ρ A :=
  M_raw [] A.toks hk hf hx (fun t => ⟨rfl, .inl rfl⟩) hb hc hB h
end
end Go.AM
set_option linter.unusedVariables false
set_option linter.unusedSimpArgs false
namespace Go.AM
open Go.RowKit
theorem cells_bytes : ∀ (ns : List Int), (∀ n ∈ ns, IntKind.u8.min ≤ n ∧ n ≤ IntKind.u8.max) → ns.map (fun n => [PV.int .u8 n]) = byteCells (ns.map fun n => UInt8.ofNat n.toNat)
  | [], _ => rfl
  | n :: ns, h => by
    have ih := cells_bytes ns (fun m hm => h m (List.mem_cons_of_mem _ hm))
    have hn := h n List.mem_cons_self
    have h1 : IntKind.u8.min = 0 := rfl
    have h2 : IntKind.u8.max = 255 := rfl
    rw [h1, h2] at hn
    simp only [List.map_cons, byteCells] at ih ⊢
    rw [ih, cell_byte ⟨hn.1, by omega⟩]
theorem tv_bytes {H : Type} {P : Program} {t e : TypeId} {d : DataW H} {q : PV} (hu : P.underlying t = some (.slice e)) (he : P.underlying e = some (.int .u8)) (hp : 0 < P.cellsOf e) (h : TV P t d [q]) :
    ∃ s, BV q s ∧ ((d = .nil ∧ s = []) ∨ ∃ ds rest, d = .slice ds rest ∧ s.length = ds.length) := by
  rcases tv_slice hu hp h with ⟨rfl, e0⟩ | ⟨dl, rest, xs, full, rfl, e0, hlen, _, _, helems⟩
  · injection e0 with e0
    subst e0
    exact ⟨[], .nil, .inl ⟨rfl, rfl⟩⟩
  · injection e0 with e0
    subst e0
    obtain ⟨ns, rfl, hns⟩ := ints_of he hlen helems
    rw [cells_bytes ns hns]
    refine ⟨_, .sl _ full, .inr ⟨dl, rest, rfl, ?_⟩⟩
    rw [← hlen]
    simp
end Go.AM
set_option linter.unusedVariables false
set_option linter.unusedSimpArgs false
namespace Go.AM
open Go.RowKit
def VM2 (T : Tb) (Q : Post) (m1 m2 d : Nat) (A B C : St) (k : Nat) (l : List POp) (kill : List Nat) (fr : List Fr) (e : EC) (st : St) : Prop :=
  ∀ ρ, Sub e ρ → ∃ ρ1 st1, T.R (.dl2 m1 m2 d A B C k l ρ st ρ1 st1) ∧ W T Q fr .normal (dropA kill ρ1) st1
section
variable {T : Tb} {Q : Post} {m1 m2 dd j : Nat} {A B C : St} {k : List Fr} {l : List POp} {kill : List Nat} {ρ : EC} {st : St}
theorem V_M2 (m1 m2 d : Nat) (B C : St) (hm : Nat.blt m1 m2 = true) {x : EX} {k' : List Fr} (ha : adv 200 k x = (.code (.drawn l kill) :: k', .normal)) (h : VM2 T Q m1 m2 d st B C 0 l kill k' ρ st) : V T Q k x ρ st := V_adv ha fun r hr => by
  obtain ⟨ρ1, st1, h1, h2⟩ := h r hr
  exact ⟨_, _, _, .drawnL2 _ _ _ _ _ _ _ _ _ _ _ (Nat.le_of_ble_eq_true hm) h1, h2⟩
theorem M2_nil (h : V T Q k .normal (.drop kill ρ) st) : VM2 T Q m1 m2 dd A B C j [] kill k ρ st := fun r hr => ⟨_, _, .dl2Nil _ _ _ _ _ _ _ _ _, h _ (hr.drop kill)⟩
theorem M2_step {d : Option Nat} {op : PI} {p : PV} (hk1 : Nat.beq j m1 = false) (hk2 : Nat.beq j m2 = false) (hs : st = A ∨ st = B ∨ st = C) (hq : stepQ A.get ρ op = some p) (hq' : stepQ B.get ρ op = some p) (hq'' : stepQ C.get ρ op = some p) (h : VM2 T Q m1 m2 dd A B C (j + 1) l kill k (ρ.sets d p) st) : VM2 T Q m1 m2 dd A B C j (⟨d, none, op⟩ :: l) kill k ρ st := fun r hr => by
  obtain ⟨ρ1, st1, h1, h2⟩ := h _ (hr.sets d p)
  exact ⟨_, _, .dl2Quiet _ _ _ _ _ _ _ _ _ _ _ p _ _ (Nat.ne_of_beq_eq_false hk1) (Nat.ne_of_beq_eq_false hk2) hs rfl (fun s hs => by rcases hs with rfl | rfl | rfl; exact stepQ_quiet hr hq; exact stepQ_quiet hr hq'; exact stepQ_quiet hr hq'') h1, h2⟩
theorem M2_loud2 {d : Option Nat} {op : PI} {p : PV} (hk : Nat.beq j m2 = true) (hd : dd ∈ POp.tmps ⟨d, none, op⟩) (hq : stepL B ρ op = some (p, C)) (h : VM2 T Q m1 m2 dd A B C (j + 1) l kill k (ρ.sets d p) C) : VM2 T Q m1 m2 dd A B C j (⟨d, none, op⟩ :: l) kill k ρ B := fun r hr => by
  have := Nat.eq_of_beq_eq_true hk
  subst this
  obtain ⟨ρ1, st1, h1, h2⟩ := h _ (hr.sets d p)
  exact ⟨_, _, .dl2Loud2 _ _ _ _ _ _ _ _ _ p _ _ hd rfl (stepL_loud hr hq) h1, h2⟩
theorem M2_raw1 {d : Nat} {f : Opd} {xs : List Opd} {g : Nat} {caps vals : List PV} {r : PV} {st1 : St} (hc : T.R (.raw g (vals ++ caps) ⟨A.next, A.next, A.toks⟩ r st1)) (hb : st1.base = A.next) (hk : Nat.beq j m1 = true) (hf : f.get ρ = some (.func g caps)) (hx : gets ρ xs = some vals) (hB : (⟨A.base, st1.next, st1.toks⟩ : St) = B) (h : VM2 T Q m1 m2 d A B C (j + 1) l kill k (ρ.sets (some d) r) B) : VM2 T Q m1 m2 d A B C j (⟨some d, none, .call f xs⟩ :: l) kill k ρ A := fun e he => by
  have := Nat.eq_of_beq_eq_true hk
  subst this hB
  obtain ⟨ρ1, st2, h1, h2⟩ := h _ (he.sets (some d) r)
  exact ⟨_, _, .dl2Raw1 _ _ _ _ _ _ _ _ _ _ _ _ [] A.toks _ _ _ _ rfl rfl rfl (Opd.ev_of he hf) (fun t => ⟨rfl, .inl rfl⟩) hb (by rw [gets_ev he hx]; exact hc) h1, h2⟩
theorem M2_append2 {d : Option Nat} {sz bytes : Nat} {z : List PV} {s x : Opd} {p q r : PV} {src : List (List PV)} (hk : Nat.beq j m2 = true) (hd : dd ∈ POp.tmps ⟨d, none, .append sz bytes z s x⟩) (hs : s.get ρ = some p) (hx : x.get ρ = some q) (hsrc : srcOf B q = some src) (hok : okEls sz src = true) (hsz : 0 < sz) (hby : 0 < bytes)
    (ha : appendTo B sz bytes p src = some (r, C)) (h : VM2 T Q m1 m2 dd A B C (j + 1) l kill k (ρ.sets d r) C) : VM2 T Q m1 m2 dd A B C j (⟨d, none, .append sz bytes z s x⟩ :: l) kill k ρ B := by
  refine M2_loud2 hk hd ?_ h
  simp only [stepL, hs, hx, hsrc, Option.bind_some]
  rw [if_pos ⟨hok, hsz, hby⟩]
  exact ha
theorem M2_loadV {d : Option Nat} {a : Opd} {t off : Nat} {cs : List PV} {c : PV} (hk1 : Nat.beq j m1 = false) (hk2 : Nat.beq j m2 = false) (hs : st = A ∨ st = B ∨ st = C) (ha : a.get ρ = some (.ptr t off)) (hg : ∀ s, s = A ∨ s = B ∨ s = C → s.get t = some (.var cs)) (hc : cs[off]? = some c) (h : VM2 T Q m1 m2 dd A B C (j + 1) l kill k (ρ.sets d c) st) : VM2 T Q m1 m2 dd A B C j (⟨d, none, .load 1 false a⟩ :: l) kill k ρ st := by
  have key : ∀ s : St, s.get t = some (.var cs) → stepQ s.get ρ (.load 1 false a) = some c := fun s hs => by
    have hlt := (List.getElem?_eq_some_iff.1 hc).1
    simp only [stepQ, get1, ha, loadAt, behind, hs, Option.bind_some, slice?]
    rw [if_pos (by omega)]
    simpa using hc
  exact M2_step hk1 hk2 hs (key A (hg A (.inl rfl))) (key B (hg B (.inr (.inl rfl)))) (key C (hg C (.inr (.inr rfl)))) h
end
end Go.AM
set_option linter.unusedVariables false
set_option linter.unusedSimpArgs false
namespace Go.AM
open Go.RowKit
section
variable {T : Tb} {Q : Post} {k : List Fr} {ρ : EC} {st : St} {l : List POp} {kill : List Nat}
theorem O_is {d : Option Nat} {op : PI} {p p' : PV} (he : p = p') (hq : stepQ st.get ρ op = some p) (h : VO T Q l kill k (ρ.sets d p') st) : VO T Q (⟨d, none, op⟩ :: l) kill k ρ st := by
  subst he
  exact O_step hq h
theorem dec_is {p : Prop} [Decidable p] (h : p) : PV.bool (decide p) = PV.bool true := by rw [decide_eq_true h]
theorem dec_not {p : Prop} [Decidable p] (h : ¬ p) : PV.bool (decide p) = PV.bool false := by rw [decide_eq_false h]
theorem ndec_not {p : Prop} [Decidable p] (h : ¬ p) : PV.bool (!decide p) = PV.bool true := by rw [decide_eq_false h]; rfl
theorem int_is {k : IntKind} {a b : Int} (h : a = b) : PV.int k a = PV.int k b := by rw [h]
end
end Go.AM
set_option linter.unusedVariables false
set_option linter.unusedSimpArgs false
namespace Go.AM
open Go.RowKit
section
variable {T : Tb} {Q : Post} {k : List Fr} {ρ : EC} {st : St} {l : List POp} {kill : List Nat}
theorem O_callW {d : Option Nat} {f : Opd} {xs : List Opd} {g : Nat} {caps vals args : List PV} {r : PV} (l0 : List (Nat × PV)) (st' : St) (h1 : ∀ x ∈ l0, ρ.get x.1 = some x.2 ∧ Bel st'.next x.2) (hb : st'.base = st.base) (hn : st'.base ≤ st'.next ∧ st'.next ≤ st.next)
    (ht : ∀ x ∈ st'.toks, x.1 < st'.next ∧ BelTok st'.next x.2 ∧ (st.get x.1 = some x.2 ∨ ∃ g sz es, x.2 = .row g sz es false ∧ st.get x.1 = some (.row g sz es true))) (hf : f.get (ecOf l0) = some (.func g caps)) (hx : gets (ecOf l0) xs = some vals)
    (hv : ViewL false st'.get (vals ++ caps) args) (hc : T.R (.call g args r)) (h : VO T Q l kill k ((ecOf l0).sets d r) st') : VO T Q (⟨d, none, .call f xs⟩ :: l) kill k ρ st := fun e he => by
  have hs := sub_ecOf l0
  obtain ⟨ρ1, st1, k1, k2⟩ := h (Env.put l0 d r) (hs.sets d r)
  refine ⟨ρ1, st1, .opsCallW _ _ _ _ l0 st' _ _ _ _ _ _ _ _ rfl rfl ⟨hb, hn, fun t p hp => ?_, fun t k hk => ?_⟩ (Opd.ev_of hs hf) (by rw [gets_ev hs hx]; exact hv) hc k1, k2⟩
  · have := h1 _ (getA_mem' hp)
    exact .inr ⟨he _ _ this.1, this.2⟩
  · exact ht _ (getA_mem' hk)
end
end Go.AM
set_option linter.unusedVariables false
set_option linter.unusedSimpArgs false
namespace Go.AM
open Go.RowKit
section
variable {T : Tb} {Q : Post} {k : List Fr} {ρ : EC} {st A B : St} {l : List POp} {kill : List Nat} {m j : Nat}
theorem O_cA {d : Option Nat} {f : Opd} {xs : List Opd} {g : Nat} {caps vals : List PV} {r : PV} (hf : f.get ρ = some (.func g caps)) (hx : gets ρ xs = some vals) (hc : T.R (.call g (vals ++ caps) r)) (h : VO T Q l kill k (ρ.sets d r) st)
    (hp : ∀ c ∈ vals ++ caps, Pl c := by (repeat' (first | exact Pl.int _ _ | exact Pl.bool _ | exact Pl.str _ | exact Pl.nilSl | exact pl_nil | refine pl_cons ?_ ?_ | refine Pl.tuple _ ?_ | refine Pl.agg _ ?_ | refine Pl.func _ _ ?_ | assumption | refine Pl.iptr _ _ ?_ | exact pll_nil | refine pll_cons ?_ ?_ | refine Pl.sl _ _ ?_)); first | done | fail) : VO T Q (⟨d, none, .call f xs⟩ :: l) kill k ρ st :=
  O_callP hf hx (viewL_pl hp) hc h
theorem D_cA {d : Option Nat} {f : Opd} {xs : List Opd} {g : Nat} {caps vals : List PV} {r : PV} (hf : f.get ρ = some (.func g caps)) (hx : gets ρ xs = some vals) (hc : T.R (.call g (vals ++ caps) r)) (h : VD T Q l kill k (ρ.sets d r) st)
    (hp : ∀ c ∈ vals ++ caps, Pl c := by (repeat' (first | exact Pl.int _ _ | exact Pl.bool _ | exact Pl.str _ | exact Pl.nilSl | exact pl_nil | refine pl_cons ?_ ?_ | refine Pl.tuple _ ?_ | refine Pl.agg _ ?_ | refine Pl.func _ _ ?_ | assumption | refine Pl.iptr _ _ ?_ | exact pll_nil | refine pll_cons ?_ ?_ | refine Pl.sl _ _ ?_)); first | done | fail) : VD T Q (⟨d, none, .call f xs⟩ :: l) kill k ρ st :=
  D_callP hf hx (viewL_pl hp) hc h
theorem V_fA {pf : PF} {Q : PV → Prop} {x : EX} {r : PV} (ha : adv 200 k x = ([], .ret)) (hr : resG ρ st.get pf.results = some r) (hq : Q r)
    (hp : Pl r := by (repeat' (first | exact Pl.int _ _ | exact Pl.bool _ | exact Pl.str _ | exact Pl.nilSl | exact pl_nil | refine pl_cons ?_ ?_ | refine Pl.tuple _ ?_ | refine Pl.agg _ ?_ | refine Pl.func _ _ ?_ | assumption | refine Pl.iptr _ _ ?_ | exact pll_nil | refine pll_cons ?_ ?_ | refine Pl.sl _ _ ?_)); first | done | fail) : V T (Ends pf Q) k x ρ st := V_fin ha hr hp.view hq
theorem V_fAN {pf : PF} {Q : PV → Prop} {x : EX} {r : PV} (ha : adv 200 k x = ([], .normal)) (hr : resG ρ st.get pf.results = some r) (hq : Q r)
    (hp : Pl r := by (repeat' (first | exact Pl.int _ _ | exact Pl.bool _ | exact Pl.str _ | exact Pl.nilSl | exact pl_nil | refine pl_cons ?_ ?_ | refine Pl.tuple _ ?_ | refine Pl.agg _ ?_ | refine Pl.func _ _ ?_ | assumption | refine Pl.iptr _ _ ?_ | exact pll_nil | refine pll_cons ?_ ?_ | refine Pl.sl _ _ ?_)); first | done | fail) : V T (Ends pf Q) k x ρ st := V_finN ha hr hp.view hq
end
end Go.AM

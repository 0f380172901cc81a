/- AM4: the operations that change nothing. -/
import Derived.Test.YthoknkogdldgcaaAm3
set_option linter.unusedVariables false
set_option linter.unusedSimpArgs false
namespace Go.AM
open Go.RowKit

section
variable {P : Program} {X : Cx} {st : St} {G : Gh} {w : World}

theorem behind_rep (hI : Inv X st G w) {v : Value} {p : PV} (h : Rep G (OwnF X st G) w v p) {cs : List PV} {off : Nat} (hb : behind st.get p = some (cs, off)) :
    ∃ b o, v = .pointer (some ⟨b, o + off, none⟩) ∧ CellsAt G (OwnF X st G) w b o cs := by
  unfold behind at hb
  split at hb
  · rename_i t off'
    split at hb
    · rename_i cs' hg
      simp only [Option.some.injEq, Prod.mk.injEq] at hb
      obtain ⟨rfl, rfl⟩ := hb
      obtain ⟨L, h1, h2, h3⟩ := hI.toks t _ hg
      cases h with
      | ptr _ _ L' h' =>
        rw [h1] at h'
        injection h' with h'
        subst h'
        exact ⟨_, _, rfl, h3⟩
    · cases hb
  · rename_i t g i off'
    split at hb
    · rename_i g' sz es lv hg
      split at hb
      · rename_i hgg
        subst hgg
        obtain ⟨cs', hcs, hb⟩ := Option.map_eq_some_iff.1 hb
        simp only [Prod.mk.injEq] at hb
        obtain ⟨rfl, rfl⟩ := hb
        obtain ⟨L, h1, h2, h3, h4, h5, h6⟩ := hI.toks t _ hg
        cases h with
        | rptr _ _ _ _ L' h' =>
          rw [h1] at h'
          injection h' with h'
          subst h'
          subst h2
          exact ⟨_, _, rfl, (h5 i cs' hcs).2⟩
      · cases hb
    · cases hb
  · rename_i cs' off'
    simp only [Option.some.injEq, Prod.mk.injEq] at hb
    obtain ⟨rfl, rfl⟩ := hb
    cases h with
    | iptr _ _ b o u hc hr => exact ⟨b, o, rfl, fun i p hi => ⟨u i, (hc i p hi).1, hr i p hi⟩⟩
  · cases hb

/-- An operation that answers, and leaves what was there. -/
def QOk (P : Program) (X : Cx) (st : St) (G : Gh) (w : World) (o : Oper) (a : Act) (p : PV) : Prop :=
  ∃ u w', (execOp a.eval o).run P w = .ok (.value u) w' ∧ Below w.heap.size w w' ∧ Rep G (OwnF X st G) w' u p

theorem qok_same {o : Oper} {a : Act} {p : PV} {u : Value} (h : (execOp a.eval o).run P w = .ok (.value u) w) (hr : Rep G (OwnF X st G) w u p) : QOk P X st G w o a p :=
  ⟨u, w, h, Below.refl _ _, hr⟩

/-! ### Loads, addresses -/
def cLoad (P : Program) (t : TypeId) (x : Operand) : Option PI :=
  match tyOf P t, cOpd x with
  | some (d, i), some y => if aggD d = true ∨ i.size = 1 then some (.load i.size (aggD d) y) else none
  | _, _ => none
theorem q_load (hI : Inv X st G w) {n : Nat} {ρ : Env} {a : Act} (hE : EnvRep G (OwnF X st G) w n ρ a) {o : Oper} {t : TypeId} {x : Operand} (ho : o.op = .load t x) {pi : PI} (hc : cLoad P t x = some pi) {p : PV}
    (hq : quiet st.get (Opd.ev ρ) pi = some p) : QOk P X st G w o a p := by
  unfold cLoad at hc
  split at hc
  · rename_i d i y hT hy
    split at hc
    · rename_i hag
      injection hc with hc
      subst hc
      simp only [quiet, loadAt] at hq
      obtain ⟨⟨cs, off⟩, hb, hs⟩ := Option.bind_eq_some_iff.1 hq
      have hr := opd_rep hE hy
      obtain ⟨b, ob, hv, hcells⟩ := behind_rep hI hr hb
      obtain ⟨u, hu, hru⟩ := run_loadVar_cells (P := P) hT hag hcells hs
      refine qok_same (u := u) ?_ hru
      simp only [execOp, ho, Instr.loadAt, Instr.sureAddr, hv]
      simp [hu]
    · cases hc
  · cases hc

def fieldOf (P : Program) (s : TypeId) (f : Nat) : Option (Field × TypeDesc × TypeInfo) :=
  match P.underlying s with
  | some (.struct fs) => match fs[f]? with
    | some fd => match tyOf P fd.type with
      | some (d, i) => some (fd, d, i)
      | none => none
    | none => none
  | _ => none
theorem fieldOf_spec {s : TypeId} {f : Nat} {fd : Field} {d : TypeDesc} {i : TypeInfo} (h : fieldOf P s f = some (fd, d, i)) : ∃ fs, P.underlying s = some (.struct fs) ∧ fs[f]? = some fd ∧ tyOf P fd.type = some (d, i) := by
  unfold fieldOf at h
  split at h
  · rename_i fs hs
    split at h
    · rename_i fd' hf
      split at h
      · rename_i d' i' hT
        simp only [Option.some.injEq, Prod.mk.injEq] at h
        obtain ⟨rfl, rfl, rfl⟩ := h
        exact ⟨fs, hs, hf, hT⟩
      · cases h
    · cases h
  · cases h
def cFieldAddr (P : Program) (s : TypeId) (x : Operand) (f : Nat) : Option PI :=
  match fieldOf P s f, cOpd x with
  | some (fd, _, i), some y => if i.size ≠ 0 then some (.fieldAddr y fd.offset) else none
  | _, _ => none
theorem fieldAddr_rep {own : Nat → Prop} {v : Value} {p q : PV} (h : Rep G own w v p) {d : Nat} (hq : fieldAddr? d p = some q) : ∃ b o, v = .pointer (some ⟨b, o, none⟩) ∧ Rep G own w (.pointer (some ⟨b, o + d, none⟩)) q := by
  cases h with
  | ptr t off L h => injection hq with hq; subst hq; exact ⟨_, _, rfl, by rw [Nat.add_assoc]; exact .ptr t _ L h⟩
  | rptr t g i off L h => injection hq with hq; subst hq; exact ⟨_, _, rfl, by rw [Nat.add_assoc]; exact .rptr t g i _ L h⟩
  | iptr cells off b o u hc hr => injection hq with hq; subst hq; exact ⟨_, _, rfl, by rw [Nat.add_assoc]; exact .iptr cells _ b o u hc hr⟩
  | _ => cases hq
theorem q_fieldAddr {n : Nat} {ρ : Env} {a : Act} (hE : EnvRep G (OwnF X st G) w n ρ a) {o : Oper} {t : TypeId} {x : Operand} {f : Nat} (ho : o.op = .fieldAddr t x f) {pi : PI} (hc : cFieldAddr P t x f = some pi) {p : PV}
    (hq : quiet st.get (Opd.ev ρ) pi = some p) : QOk P X st G w o a p := by
  unfold cFieldAddr at hc
  split at hc
  · rename_i fd d i y hF hy
    split at hc
    · rename_i hsz
      injection hc with hc
      subst hc
      simp only [quiet] at hq
      obtain ⟨fs, h1, h2, h3⟩ := fieldOf_spec hF
      obtain ⟨b, o', hv, hr⟩ := fieldAddr_rep (opd_rep hE hy) hq
      refine qok_same ?_ hr
      simp only [execOp, ho, Instr.fieldAt, hv]
      simp [run_underlying h1, h2, Instr.sureAddr, fieldPlace, run_sizeOf h3, hsz, add_at]
    · cases hc
  · cases hc

def cField (P : Program) (s : TypeId) (x : Operand) (f : Nat) : Option PI :=
  match fieldOf P s f, cOpd x with
  | some (fd, d, i), some y => if aggD d = true ∨ i.size = 1 then some (.field y fd.offset i.size (aggD d)) else none
  | _, _ => none
theorem run_part {own : Nat → Prop} {t : TypeId} {d : TypeDesc} {i : TypeInfo} (ht : tyOf P t = some (d, i)) (h1 : aggD d = true ∨ i.size = 1) {cs : List PV} {vs : Array Value} (hs : vs.size = cs.length)
    (hv : ∀ (j : Nat) (c : PV), cs[j]? = some c → Rep G own w (vs.getD j undef) c) {off : Nat} {q : PV} (hq : slice? cs off i.size (aggD d) = some q) : ∃ u, (part t vs off).run P w = .ok u w ∧ Rep G own w u q := by
  unfold slice? at hq
  split at hq
  · rename_i hl
    unfold part
    rw [Sem.run_bind, run_isAgg ht]
    simp only [Result.andThen_ok]
    split at hq
    · rename_i hag
      injection hq with hq
      subst hq
      refine ⟨.agg (vs.extract off (off + i.size)), ?_, .agg _ _ (by simp; omega) (fun j c hj => ?_)⟩
      · rw [hag]; simp [run_sizeOf ht]
      · rw [List.getElem?_take] at hj
        split at hj
        · rename_i hlt
          rw [List.getElem?_drop] at hj
          have := hv (off + j) c hj
          simp only [Array.getD_eq_getD_getElem?, Array.getElem?_extract] at this ⊢
          rw [if_pos (by omega)]
          exact this
        · cases hj
    · rename_i hag
      have hag' : aggD d = false := by simpa using hag
      have hlt : off < vs.size := by
        have := (List.getElem?_eq_some_iff.1 hq).1
        omega
      refine ⟨vs[off], ?_, ?_⟩
      · rw [hag']; simp [Array.getElem?_eq_getElem hlt]
      · have := hv off q hq
        simpa [Array.getD_eq_getD_getElem?, Array.getElem?_eq_getElem hlt] using this
  · cases hq
theorem q_field {n : Nat} {ρ : Env} {a : Act} (hE : EnvRep G (OwnF X st G) w n ρ a) {o : Oper} {t : TypeId} {x : Operand} {f : Nat} (ho : o.op = .field t x f) {pi : PI} (hc : cField P t x f = some pi) {p : PV}
    (hq : quiet st.get (Opd.ev ρ) pi = some p) : QOk P X st G w o a p := by
  unfold cField at hc
  split at hc
  · rename_i fd d i y hF hy
    split at hc
    · rename_i hsz
      injection hc with hc
      subst hc
      simp only [quiet] at hq
      obtain ⟨fs, h1, h2, h3⟩ := fieldOf_spec hF
      have hr := opd_rep hE hy
      unfold field? at hq
      split at hq
      · rename_i cs hev
        rw [hev] at hr
        obtain ⟨vs, hv, hs, hrep⟩ := rep_agg hr
        obtain ⟨u, hu, hru⟩ := run_part (P := P) (w := w) h3 hsz hs hrep hq
        refine qok_same (u := u) ?_ hru
        simp only [execOp, ho, Instr.field, hv]
        simp [run_underlying h1, h2, asAgg, hu]
      · cases hq
    · cases hc
  · cases hc

/-! ### Indexing -/
def cIndexAddr (P : Program) (t : TypeId) (x ix : Operand) : Option PI :=
  match P.underlying t, cOpd x, cOpd ix with
  | some (.array len e), some y, some z => match tyOf P e with
    | some (_, i) => some (.indexA y z len i.size)
    | none => none
  | some (.slice e), some y, some z => match tyOf P e with
    | some (_, i) => some (.indexS y z i.size)
    | none => none
  | _, _, _ => none
theorem int?_rep {own : Nat → Prop} {v : Value} {p : PV} {i : Int} (h : Rep G own w v p) (hi : int? p = some i) : ∃ k, v = .int k i := by
  cases h with
  | int k n => injection hi with hi; subst hi; exact ⟨k, rfl⟩
  | _ => cases hi
theorem q_indexAddr (hI : Inv X st G w) {n : Nat} {ρ : Env} {a : Act} (hE : EnvRep G (OwnF X st G) w n ρ a) {o : Oper} {t : TypeId} {x ix : Operand} (ho : o.op = .indexAddr t x ix) {pi : PI} (hc : cIndexAddr P t x ix = some pi) {p : PV}
    (hq : quiet st.get (Opd.ev ρ) pi = some p) : QOk P X st G w o a p := by
  unfold cIndexAddr at hc
  split at hc
  · rename_i len e y z hU hy hz
    split at hc
    · rename_i d i hT
      injection hc with hc
      subst hc
      simp only [quiet] at hq
      obtain ⟨j, hj, hq⟩ := Option.bind_eq_some_iff.1 hq
      obtain ⟨k, hk⟩ := int?_rep (opd_rep hE hz) hj
      unfold indexA? at hq
      split at hq
      · rename_i hb
        obtain ⟨b, o', hv, hr⟩ := fieldAddr_rep (opd_rep hE hy) hq
        refine qok_same ?_ hr
        simp only [execOp, ho, Instr.indexAt, hv, hk]
        simp [run_underlying hU, Instr.sureAddr, asIntOf, run_sizeOf hT, hb, add_at]
      · cases hq
    · cases hc
  · rename_i e y z hU hy hz
    split at hc
    · rename_i d i hT
      injection hc with hc
      subst hc
      simp only [quiet] at hq
      obtain ⟨j, hj, hq⟩ := Option.bind_eq_some_iff.1 hq
      obtain ⟨k, hk⟩ := int?_rep (opd_rep hE hz) hj
      have hr := opd_rep hE hy
      have go : ∀ (b o' len cap : Nat) (q : PV), a.eval x = .slice (some ⟨b, o', none⟩) len cap → 0 ≤ j → j < len → Rep G (OwnF X st G) w (.pointer (some ⟨b, o' + j.toNat * i.size, none⟩)) q → QOk P X st G w o a q := by
        intro b o' len cap q hv h0 h1 hr
        refine qok_same ?_ hr
        simp only [execOp, ho, Instr.indexAt, hv, hk]
        simp [run_underlying hU, Instr.sureAddr, asIntOf, run_sizeOf hT, h0, h1, add_at]
      unfold indexS? at hq
      split at hq
      · rename_i xs fl hev
        rw [hev] at hr
        split at hq
        · rename_i h0
          split at hq
          · rename_i cs hcs
            split at hq
            · rename_i hlen
              injection hq with hq
              subst hq
              generalize hav : a.eval x = vx at hr
              cases hr with
              | sl _ _ b o' cap sz adr u hcap hfull hadr hsz hc' hr' =>
                have hs' := hsz _ _ hcs
                have hlt := (List.getElem?_eq_some_iff.1 hcs).1
                have := hadr (by omega)
                subst this
                refine go b o' xs.length cap _ hav h0 (by omega) ?_
                have : sz = i.size := by omega
                subst this
                exact .iptr cs 0 b (o' + j.toNat * i.size) (u j.toNat) (fun m c hm => hc' _ _ _ _ hcs hm) (fun m c hm => hr' _ _ _ _ hcs hm)
            · cases hq
          · cases hq
        · cases hq
      · rename_i tk g off len fl hev
        rw [hev] at hr
        split at hq
        · rename_i hb
          split at hq
          · rename_i g' sz' es lv hg
            split at hq
            · rename_i hgs
              obtain ⟨rfl, rfl⟩ := hgs
              injection hq with hq
              subst hq
              generalize hav : a.eval x = vx at hr
              cases hr with
              | osl _ _ _ _ _ L cap ad h hcap hL hfull ha =>
                have := ha (by omega)
                subst this
                refine go _ _ len cap _ hav hb.1 hb.2 ?_
                obtain ⟨L', h1, h2, _⟩ := hI.toks tk _ hg
                rw [h1] at h
                injection h with h
                subst h
                have := Rep.rptr (G := G) (own := OwnF X st G) (w := w) tk g' (off + j.toNat) 0 L' h1
                rw [h2, Nat.add_mul] at this
                rw [h2]
                simpa [Nat.add_assoc] using this
            · cases hq
          · cases hq
        · cases hq
      · rename_i tk off sz' len hev
        rw [hev] at hr
        split at hq
        · rename_i hb
          obtain ⟨h0, h1, rfl⟩ := hb
          injection hq with hq
          subst hq
          generalize hav : a.eval x = vx at hr
          cases hr with
          | vsl _ _ _ _ L cap ad h hcap ha =>
            have := ha (by omega)
            subst this
            refine go _ _ len cap _ hav h0 h1 ?_
            rw [Nat.add_assoc]
            exact .ptr tk _ L h
        · cases hq
      · cases hq
    · cases hc
  · cases hc

def cIndex (P : Program) (t : TypeId) (x ix : Operand) : Option PI :=
  match P.underlying t, cOpd x, cOpd ix with
  | some .string, some y, some z => some (.indexStr y z)
  | _, _, _ => none
theorem q_index {n : Nat} {ρ : Env} {a : Act} (hE : EnvRep G (OwnF X st G) w n ρ a) {o : Oper} {t : TypeId} {x ix : Operand} (ho : o.op = .index t x ix) {pi : PI} (hc : cIndex P t x ix = some pi) {p : PV}
    (hq : quiet st.get (Opd.ev ρ) pi = some p) : QOk P X st G w o a p := by
  unfold cIndex at hc
  split at hc
  · rename_i y z hU hy hz
    injection hc with hc
    subst hc
    simp only [quiet] at hq
    obtain ⟨j, hj, hq⟩ := Option.bind_eq_some_iff.1 hq
    obtain ⟨k, hk⟩ := int?_rep (opd_rep hE hz) hj
    have hr := opd_rep hE hy
    unfold indexStr? at hq
    split at hq
    · rename_i s hev
      rw [hev] at hr
      have hv := rep_str hr
      split at hq
      · rename_i h0
        obtain ⟨b, hb, rfl⟩ := Option.map_eq_some_iff.1 hq
        refine qok_same ?_ (.int .u8 b.toNat)
        have hlt := (List.getElem?_eq_some_iff.1 hb)
        obtain ⟨hlt, hb'⟩ := hlt
        simp only [execOp, ho, Instr.index, hv, hk]
        have hx : (⟨s.toArray⟩ : ByteArray)[j.toNat]? = some b := by
          have hsz : j.toNat < (⟨s.toArray⟩ : ByteArray).size := by simpa [ByteArray.size] using hlt
          rw [getElem?_pos (⟨s.toArray⟩ : ByteArray) j.toNat hsz]
          congr 1
        simp [asIntOf, run_underlying hU, h0, hx]
      · cases hq
    · cases hq
  · cases hc
end
end Go.AM

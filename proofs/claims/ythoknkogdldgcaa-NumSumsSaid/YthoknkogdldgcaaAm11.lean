/- AM11: stores, new variables, rows. -/
import Derived.Test.YthoknkogdldgcaaAm10
import Derived.Laws.AppendOwn
set_option linter.unusedVariables false
set_option linter.unusedSimpArgs false
namespace Go.AM
open Go.RowKit

section
variable {P : Program} {X : Cx} {st : St} {G : Gh} {w : World} {n : Nat} {ρ : Env} {a : Act}

theorem one_rep {own : Nat → Prop} {v : Value} {p : PV} (h : Rep G own w v p) (hp : p.one = true) : v.oneCell' = true := by
  cases h <;> first | rfl | cases hp

/-- A list of values that reads as a list of cells. -/
def ListRep (G : Gh) (own : Nat → Prop) (w : World) (vs : List Value) (xs : List PV) : Prop := vs.length = xs.length ∧ ∀ (j : Nat) (v : Value) (c : PV), vs[j]? = some v → xs[j]? = some c → Rep G own w v c
theorem CellsRep.list {own : Nat → Prop} {vs : Array Value} {xs : List PV} (h : CellsRep G own w vs xs) : ListRep G own w vs.toList xs := by
  refine ⟨by simpa using h.1, fun j v c hv hc => ?_⟩
  have := h.2 j c hc
  rw [Array.getElem?_toList] at hv
  simpa [Array.getD_eq_getD_getElem?, hv] using this
theorem ListRep.one {own : Nat → Prop} {vs : List Value} {xs : List PV} (h : ListRep G own w vs xs) (hx : xs.all PV.one = true) : ∀ v ∈ vs, v.oneCell' = true := by
  intro v hv
  obtain ⟨j, hj⟩ := List.getElem?_of_mem hv
  have hlt : j < xs.length := by rw [← h.1]; exact (List.getElem?_eq_some_iff.1 hj).1
  have hc := List.getElem?_eq_getElem hlt
  exact one_rep (h.2 j v _ hj hc) ((List.all_eq_true.1 hx) _ (List.getElem_mem hlt))

theorem room_setCells {b o lo hi : Nat} {vs : List Value} (hr : Room w b lo hi) (h : ∀ j, j < vs.length → ∃ v, cellAt w b (o + j) = some v) : Room (w.setCells b o vs) b lo hi := by
  intro q h1 h2
  obtain ⟨⟨v, hv⟩, hf⟩ := hr q h1 h2
  refine ⟨?_, by rw [World.frozen?_setCells]; exact hf⟩
  by_cases hq : o ≤ q ∧ q < o + vs.length
  · exact ⟨_, setCells_in h hq.1 (List.getElem?_eq_getElem (show q - o < vs.length by omega))⟩
  · exact ⟨v, by rw [setCells_out (by omega)]; exact hv⟩

/-- Cells, some of them written. -/
theorem cells_splice {own : Nat → Prop} {b o off : Nat} {cs xs : List PV} {vs : List Value} (hown : own b) (hc : CellsAt G own w b o cs) (hv : ListRep G own w vs xs) (hl : off + xs.length ≤ cs.length) :
    CellsAt G own (w.setCells b (o + off) vs) b o (splice cs off xs) := by
  have hch : Chg (fun i => i = b) w (w.setCells b (o + off) vs) := setCells_chg rfl
  have up : ∀ {v : Value} {p : PV}, Rep G own w v p → Rep G own (w.setCells b (o + off) vs) v p := fun h => h.mono (fun _ _ _ h => h) hch (fun i h => h ▸ hown) (fun _ h => .inl h)
  have hex : ∀ j, j < vs.length → ∃ v, cellAt w b (o + off + j) = some v := by
    intro j hj
    have hj2 : off + j < cs.length := by have := hv.1; omega
    obtain ⟨v, h1, _⟩ := hc _ _ (List.getElem?_eq_getElem hj2)
    exact ⟨v, by rw [← h1]; congr 1; omega⟩
  intro i p hi
  unfold splice at hi
  rw [List.append_assoc, List.getElem?_append] at hi
  have hlt : (cs.take off).length = off := by simp; omega
  rw [hlt] at hi
  split at hi
  · rename_i h1
    rw [List.getElem?_take, if_pos h1] at hi
    obtain ⟨v, e1, e2⟩ := hc i p hi
    exact ⟨v, by rw [setCells_out (by omega)]; exact e1, up e2⟩
  · rename_i h1
    rw [List.getElem?_append] at hi
    split at hi
    · rename_i h2
      have h3 : i - off < vs.length := by have := hv.1; omega
      have hvv := List.getElem?_eq_getElem h3
      refine ⟨_, setCells_in hex (q := o + i) (by omega) (v := vs[i - off]) ?_, up (hv.2 _ _ _ hvv hi)⟩
      rw [show o + i - (o + off) = i - off by omega]
      exact hvv
    · rename_i h2
      rw [List.getElem?_drop] at hi
      obtain ⟨v, e1, e2⟩ := hc _ p hi
      rw [show off + xs.length + (i - off - xs.length) = i by omega] at e1
      exact ⟨v, by rw [setCells_out (by have := hv.1; omega)]; exact e1, up e2⟩
/-- Cells apart from those written. -/
theorem cells_apart {own : Nat → Prop} {b o q : Nat} {cs : List PV} {vs : List Value} (hown : own b) (hc : CellsAt G own w b o cs) (hd : o + cs.length ≤ q ∨ q + vs.length ≤ o) : CellsAt G own (w.setCells b q vs) b o cs := by
  have hch : Chg (fun i => i = b) w (w.setCells b q vs) := setCells_chg rfl
  intro i p hi
  obtain ⟨v, e1, e2⟩ := hc i p hi
  have := (List.getElem?_eq_some_iff.1 hi).1
  exact ⟨v, by rw [setCells_out (by omega)]; exact e1, e2.mono (fun _ _ _ h => h) hch (fun i h => h ▸ hown) (fun _ h => .inl h)⟩
theorem splice_length {cs xs : List PV} {off : Nat} (h : off + xs.length ≤ cs.length) : (splice cs off xs).length = cs.length := by
  unfold splice
  simp
  omega

/-- The two ways of a store. -/
theorem store_step (hI : Inv X st G w) {v : Value} {p x : PV} (hr : Rep G (OwnF X st G) w v p) {vs : List Value} (hv : ListRep G (OwnF X st G) w vs x.cells) (hone : x.cells.all PV.one = true) {st' : St} (hs : storeAt st p x = some st') :
    ∃ b o w', v = .pointer (some ⟨b, o, none⟩) ∧ (storeCells ⟨b, o, none⟩ vs).run P w = .ok () w' ∧ Inv X st' G w' ∧ Later X st G w st' G w' := by
  unfold storeAt at hs
  split at hs
  · rename_i t off
    split at hs
    · rename_i cs hg
      split at hs
      · rename_i hl
        injection hs with hs
        subst hs
        obtain ⟨L, h1, h2, h3⟩ := hI.toks t _ hg
        cases hr with
        | ptr _ _ L' h' =>
          rw [h1] at h'
          injection h' with h'
          subst h'
          have hown : OwnF X st G L.blk := .inr ⟨t, _, L, hg, rfl, h1, rfl⟩
          have hex : ∀ j, j < vs.length → ∃ v, cellAt w L.blk (L.off + off + j) = some v := fun j hj => by
            have := hv.1
            exact (h2 _ (by omega) (by omega)).1
          have hrun := run_storeCells_cells (P := P) L.blk (L.off + off) vs 0 w (fun j hj => by obtain ⟨u, hu⟩ := hex j hj; simp [cellAt] at hu; simp [hu])
            (fun j hj => by have := hv.1; exact (h2 _ (by omega) (by omega)).2) (hv.one hone)
          obtain ⟨hi, hla⟩ := inv_put hI hg rfl h1 (k' := .var (splice cs off x.cells)) rfl rfl (w' := w.setCells L.blk (L.off + off) vs) (setCells_chg rfl)
            ⟨L, h1, by rw [splice_length hl]; exact room_setCells h2 hex, cells_splice hown h3 hv hl⟩
          exact ⟨L.blk, L.off + off, _, rfl, hrun, hi, hla⟩
      · cases hs
    · cases hs
  · rename_i t g i off
    split at hs
    · rename_i g' sz es hg
      split at hs
      · rename_i hgg
        subst hgg
        split at hs
        · rename_i cs hcs
          split at hs
          · rename_i hl
            injection hs with hs
            subst hs
            obtain ⟨L, h1, h2, h3, h4, h5, h6⟩ := hI.toks t _ hg
            have hilt := (List.getElem?_eq_some_iff.1 hcs).1
            have hcl := (h5 i cs hcs).1
            cases hr with
            | rptr _ _ _ _ L' h' =>
              rw [h1] at h'
              injection h' with h'
              subst h'
              subst h2
              have hown : OwnF X st G L.blk := .inr ⟨t, _, L, hg, rfl, h1, rfl⟩
              have hbd : i * L.sz + cs.length ≤ L.cap * L.sz := by
                have : (i + 1) * L.sz ≤ L.cap * L.sz := Nat.mul_le_mul_right _ (by omega)
                rw [Nat.add_mul] at this
                omega
              have hex : ∀ j, j < vs.length → ∃ v, cellAt w L.blk (L.off + i * L.sz + off + j) = some v := fun j hj => by
                have := hv.1
                exact (h4 _ (by omega) (by omega)).1
              have hrun := run_storeCells_cells (P := P) L.blk (L.off + i * L.sz + off) vs 0 w (fun j hj => by obtain ⟨u, hu⟩ := hex j hj; simp [cellAt] at hu; simp [hu])
                (fun j hj => by have := hv.1; exact (h4 _ (by omega) (by omega)).2) (hv.one hone)
              obtain ⟨hi, hla⟩ := inv_put hI hg rfl h1 (k' := .row g' L.sz (es.set i (splice cs off x.cells)) true) rfl rfl (w' := w.setCells L.blk (L.off + i * L.sz + off) vs) (setCells_chg rfl)
                ⟨L, h1, rfl, by simpa using h3, room_setCells h4 hex, fun j ds hj => by
                  rw [List.getElem?_set] at hj
                  split at hj
                  · rename_i hij
                    subst hij
                    injection hj with hj
                    subst hj
                    exact ⟨by rw [splice_length hl]; exact hcl, cells_splice hown (h5 i cs hcs).2 hv hl⟩
                  · rename_i hij
                    refine ⟨(h5 j ds hj).1, cells_apart hown (h5 j ds hj).2 ?_⟩
                    have hdl := (h5 j ds hj).1
                    have := hv.1
                    rcases Nat.lt_or_gt_of_ne hij with hlt | hlt
                    · right
                      have : (i + 1) * L.sz ≤ j * L.sz := Nat.mul_le_mul_right _ hlt
                      rw [Nat.add_mul] at this
                      omega
                    · left
                      have : (j + 1) * L.sz ≤ i * L.sz := Nat.mul_le_mul_right _ hlt
                      rw [Nat.add_mul] at this
                      omega, by simp⟩
              exact ⟨L.blk, L.off + i * L.sz + off, _, rfl, hrun, hi, hla⟩
          · cases hs
        · cases hs
      · cases hs
    · cases hs
  · cases hs

def cStore (P : Program) (t : TypeId) (x y : Operand) : Option PI :=
  match tyOf P t, cOpd x, cOpd y with
  | some (_, i), some x', some y' => some (.store i.size x' y')
  | _, _, _ => none
theorem l_store (hI : Inv X st G w) (hE : EnvRep G (OwnF X st G) w n ρ a) {o : Oper} {t : TypeId} {x y : Operand} (ho : o.op = .store t x y) {pi : PI} (hc : cStore P t x y = some pi) {p : PV} {st' : St} (hq : loud st (Opd.ev ρ) pi = some (p, st')) : LOk P X st G w o a p st' := by
  unfold cStore at hc
  split at hc
  · rename_i d i x' y' hT hx hy
    injection hc with hc
    subst hc
    simp only [loud] at hq
    split at hq
    · rename_i hcond
      obtain ⟨hone, hlen, hpos⟩ := hcond
      obtain ⟨st1, hs, he⟩ := Option.map_eq_some_iff.1 hq
      simp only [Prod.mk.injEq] at he
      obtain ⟨rfl, rfl⟩ := he
      have hry := opd_rep hE hy
      have hnj : y'.ev ρ ≠ .junk := by
        intro e
        rw [e] at hone
        simp [PV.cells, PV.one] at hone
      have hcells : CellsRep G (OwnF X st G) w (a.eval y).cells (y'.ev ρ).cells := rep_cells hry hnj
      obtain ⟨b, ob, w', hv, hrun, hi, hla⟩ := store_step (P := P) hI (opd_rep hE hx) hcells.list hone hs
      refine ⟨.skip, undef, w', G, ?_, rfl, hi, hla, .tuple [] #[] rfl (fun i c h => by simp at h)⟩
      have hsz : (a.eval y).cells.size = i.size := by rw [hcells.1, hlen]
      have hstore : (storeVar t ⟨b, ob, none⟩ (a.eval y)).run P w = .ok () w' := by
        unfold storeVar
        rw [Sem.run_bind, run_sizeOf hT, Result.andThen_ok]
        rw [if_neg (by omega)]
        simpa using hrun
      simp only [execOp, ho, Instr.storeAt, Instr.sureAddr, hv]
      simp [hstore]
    · cases hq
  · cases hc

/-! ### New variables -/
theorem cellAt_push {c : Array Value} {ty : TypeId} {fr : Nat × Nat} {w' : World} (hw : w'.heap[w.heap.size]? = some (.cells c ty fr)) (q : Nat) : cellAt w' w.heap.size q = c[q]? := by
  simp [cellAt, World.cell?, hw]
theorem alloc_new (w : World) (c : Array Value) (ty : TypeId) : (w.alloc (.cells c ty)).heap[w.heap.size]? = some (.cells c ty (0, 0)) := heap_alloc_new w _
theorem alloc_below (w : World) (o : Obj) : Below w.heap.size w (w.alloc o) := (Below.refl _ _).alloc (Nat.le_refl _) o
theorem alloc_size (w : World) (o : Obj) : (w.alloc o).heap.size = w.heap.size + 1 := by simp

/-- A new variable. -/
theorem new_var (hI : Inv X st G w) {c : Array Value} {cs : List PV} (hc : CellsRep G (OwnF X st G) w c cs) (ty : TypeId) :
    ∃ G', Inv X (st.new (.var cs)) G' (w.alloc (.cells c ty)) ∧ Later X st G w (st.new (.var cs)) G' (w.alloc (.cells c ty)) ∧ Rep G' (OwnF X (st.new (.var cs)) G') (w.alloc (.cells c ty)) (.pointer (some ⟨w.heap.size, 0, none⟩)) (.ptr st.next 0) := by
  let L : Loc := ⟨w.heap.size, 0, 0, 0⟩
  have hb := alloc_below w (.cells c ty)
  have hnew := alloc_new w c ty
  have hla : Later X st G w (st.new (.var cs)) (ghNew G st.next 0 L) (w.alloc (.cells c ty)) := later_new hI hb (k := .var cs) (L := L) rfl
  refine ⟨ghNew G st.next 0 L, inv_new hI hb (by rw [alloc_size]; omega) (k := .var cs) (L := L) rfl rfl ?_, hla, ?_⟩
  · refine ⟨L, ghNew_same _ _ _ _, fun q h1 h2 => ?_, fun i p hi => ?_⟩
    · have hq : q < c.size := by have := hc.1; simp only [L] at h2; omega
      refine ⟨⟨c[q], by rw [cellAt_push hnew]; exact Array.getElem?_eq_getElem hq⟩, ?_⟩
      simp only [L, World.frozen?, hnew]
      simp
    · have hlt : i < c.size := by rw [hc.1]; exact (List.getElem?_eq_some_iff.1 hi).1
      refine ⟨c[i], ?_, ?_⟩
      · simp only [L, Nat.zero_add]
        rw [cellAt_push hnew]
        exact Array.getElem?_eq_getElem hlt
      · have := hc.2 i p hi
        rw [Array.getD_eq_getD_getElem?, Array.getElem?_eq_getElem hlt] at this
        exact hla.rep this
  · have := Rep.ptr (G := ghNew G st.next 0 L) (own := OwnF X (st.new (.var cs)) (ghNew G st.next 0 L)) (w := w.alloc (.cells c ty)) st.next 0 L (ghNew_same _ _ _ _)
    simpa [L] using this

theorem l_alloc (hI : Inv X st G w) {o : Oper} {t : TypeId} (ho : o.op = .alloc t) {zs : List PV} (hz : zeroOf P t = some zs) : LOk P X st G w o a (.ptr st.next 0) (st.new (.var zs)) := by
  obtain ⟨z, hzr, hzc⟩ := zeroOf_spec (G := G) (own := OwnF X st G) (w := w) hz
  obtain ⟨G', h1, h2, h3⟩ := new_var hI hzc t
  refine ⟨.value (.pointer (some ⟨w.heap.size, 0, none⟩)), _, _, G', ?_, rfl, h1, h2, h3⟩
  simp only [execOp, ho, Instr.alloc]
  simp only [Sem.run_bind, hzr, Result.andThen_ok, newVar, newRow, run_newObj, Sem.run_pure]
  rfl
theorem l_box (hI : Inv X st G w) (hE : EnvRep G (OwnF X st G) w n ρ a) {o : Oper} {t : TypeId} {x : Operand} (ho : o.op = .box t x) {y : Opd} (hy : cOpd x = some y) (hj : (y.ev ρ).isJunk = false) : LOk P X st G w o a (.ptr st.next 0) (st.new (.var (y.ev ρ).cells)) := by
  obtain ⟨G', h1, h2, h3⟩ := new_var hI (rep_cells (opd_rep hE hy) (junk_ne hj)) t
  refine ⟨.value (.pointer (some ⟨w.heap.size, 0, none⟩)), _, _, G', ?_, rfl, h1, h2, h3⟩
  simp only [execOp, ho, Instr.box]
  simp only [Sem.run_bind, Result.andThen_ok, newVar, newRow, run_newObj, Sem.run_pure]
  rfl

/-! ### Rows -/
theorem flatten_get {sz : Nat} : ∀ {es : List (List PV)}, allOf sz es = true → es.flatten.length = es.length * sz ∧ ∀ (j i : Nat), i < sz → es.flatten[j * sz + i]? = (es[j]?).bind (·[i]?)
  | [], _ => ⟨by simp, fun j i h => by simp⟩
  | e :: r, h => by
    simp only [allOf, List.all_cons, Bool.and_eq_true, beq_iff_eq] at h
    obtain ⟨h1, h2⟩ := h
    obtain ⟨k1, k2⟩ := flatten_get (es := r) h2
    refine ⟨by simp [k1, h1, Nat.add_mul]; omega, fun j i hi => ?_⟩
    rw [List.flatten_cons, List.getElem?_append]
    cases j with
    | zero => rw [if_pos (by omega)]; simp
    | succ j =>
      rw [if_neg (by rw [Nat.add_mul]; omega), h1, show (j + 1) * sz + i - sz = j * sz + i by rw [Nat.add_mul]; omega, k2 j i hi]
      simp

/-- A new row: its cells are the elements' cells, and maybe more behind. -/
theorem new_row (hI : Inv X st G w) {w' : World} {c : Array Value} {ty : TypeId} {fr : Nat × Nat} (hb : Below w.heap.size w w') (hsz : w.heap.size < w'.heap.size) (hnew : w'.heap[w.heap.size]? = some (.cells c ty fr))
    {es : List (List PV)} {sz cap : Nat} (hall : allOf sz es = true) (hcap : es.length ≤ cap) (hc : c.size = cap * sz) (hfr : ∀ q, q < cap * sz → ¬ (fr.1 ≤ q ∧ q < fr.2))
    (hcells : ∀ (j i : Nat) (cs : List PV) (p : PV), es[j]? = some cs → cs[i]? = some p → Rep G (OwnF X st G) w (c.getD (j * sz + i) undef) p) {len : Nat} (hlen : len = es.length) :
    ∃ G', Inv X (st.new (.row 0 sz es true)) G' w' ∧ Later X st G w (st.new (.row 0 sz es true)) G' w' ∧ Rep G' (OwnF X (st.new (.row 0 sz es true)) G') w' (.slice (some ⟨w.heap.size, 0, none⟩) len cap) (.osl st.next 0 0 len false) := by
  subst hlen
  let L : Loc := ⟨w.heap.size, 0, cap, sz⟩
  have hla : Later X st G w (st.new (.row 0 sz es true)) (ghNew G st.next 0 L) w' := later_new hI hb (k := .row 0 sz es true) (L := L) rfl
  refine ⟨ghNew G st.next 0 L, inv_new hI hb hsz (k := .row 0 sz es true) (L := L) rfl rfl ?_, hla, ?_⟩
  · refine ⟨L, ghNew_same _ _ _ _, rfl, hcap, fun q h1 h2 => ?_, fun j cs hj => ⟨allOf_spec hall hj, fun i p hi => ?_⟩, by simp⟩
    · simp only [L, Nat.zero_add] at h2
      have hq : q < c.size := by omega
      refine ⟨⟨c[q], by rw [cellAt_push hnew]; exact Array.getElem?_eq_getElem hq⟩, ?_⟩
      simp only [L, World.frozen?, hnew]
      have := hfr q h2
      simpa using this
    · have hcl := allOf_spec hall hj
      have hil : i < sz := by rw [← hcl]; exact (List.getElem?_eq_some_iff.1 hi).1
      have hjl : j < es.length := (List.getElem?_eq_some_iff.1 hj).1
      have hlt : j * sz + i < c.size := by
        have := mul_lt_of hjl hil
        have : es.length * sz ≤ cap * sz := Nat.mul_le_mul_right _ hcap
        omega
      refine ⟨c[j * sz + i], ?_, ?_⟩
      · simp only [L, Nat.zero_add]
        rw [cellAt_push hnew]
        exact Array.getElem?_eq_getElem hlt
      · have := hcells j i cs p hj hi
        rw [Array.getD_eq_getD_getElem?, Array.getElem?_eq_getElem hlt] at this
        exact hla.rep this
  · exact .osl st.next 0 0 es.length false L cap _ (ghNew_same _ _ _ _) hcap (by simp [L]) (by simp) (fun _ => by simp [L]) rfl

/-- A new row that nobody will write. -/
theorem new_imm (hI : Inv X st G w) {w' : World} {c : Array Value} {ty : TypeId} {fr : Nat × Nat} (hb : Below w.heap.size w w') (hnew : w'.heap[w.heap.size]? = some (.cells c ty fr))
    {es : List (List PV)} {sz cap : Nat} {full : Bool} (hall : allOf sz es = true) (hcap : es.length ≤ cap) (hfull : full = true → cap = es.length) (hc : es.length * sz ≤ c.size)
    (hcells : ∀ (j i : Nat) (cs : List PV) (p : PV), es[j]? = some cs → cs[i]? = some p → Rep G (OwnF X st G) w (c.getD (j * sz + i) undef) p) {len : Nat} (hlen : len = es.length) :
    Rep G (OwnF X st G) w' (.slice (some ⟨w.heap.size, 0, none⟩) len cap) (.sl es full) := by
  subst hlen
  have hla := (inv_below hI hb).2
  refine .sl es full w.heap.size 0 cap sz ⟨w.heap.size, 0, none⟩ (fun j i => c.getD (j * sz + i) undef) hcap hfull (fun _ => rfl) (fun j cs hj => allOf_spec hall hj) (fun j cs i p hj hi => ⟨?_, fun ho => by have := own_lt_size hI ho; omega⟩) (fun j cs i p hj hi => hla.rep (hcells j i cs p hj hi))
  have hcl := allOf_spec hall hj
  have hil : i < sz := by rw [← hcl]; exact (List.getElem?_eq_some_iff.1 hi).1
  have hjl : j < es.length := (List.getElem?_eq_some_iff.1 hj).1
  have hlt : j * sz + i < c.size := by
    have := mul_lt_of hjl hil
    omega
  rw [Nat.zero_add, cellAt_push hnew, Array.getD_eq_getD_getElem?, Array.getElem?_eq_getElem hlt]
  rfl
end
end Go.AM

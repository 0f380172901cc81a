/- AM9: lengths, least and greatest, structs and rows put together. -/
import Derived.Test.YthoknkogdldgcaaAm8
set_option linter.unusedVariables false
set_option linter.unusedSimpArgs false
namespace Go.AM
open Go.RowKit

section
variable {P : Program} {X : Cx} {st : St} {G : Gh} {w : World} {n : Nat} {ρ : Env} {a : Act}

def lenKind : TypeDesc → Option Bool
  | .string => some true
  | .slice _ => some false
  | _ => none
theorem q_len (hE : EnvRep G (OwnF X st G) w n ρ a) {o : Oper} {t : TypeId} {x : Operand} (ho : o.op = .call { callee := .builtin .len, args := #[x], argTypes := #[t] }) {d : TypeDesc} (ht : P.underlying t = some d) {txt : Bool} (hd : lenKind d = some txt) {y : Opd} (hy : cOpd x = some y) {m : Nat}
    (hk : (isStr (y.ev ρ) == txt) = true) (hm : lenOf (y.ev ρ) = some m) : QOk P X st G w o a (.int .i64 m) := by
  have hr := opd_rep hE hy
  generalize hav : a.eval x = v at hr
  generalize hev : y.ev ρ = p at hr hk hm
  have run : ∀ w' : World, (Builtin.len_ #[t] o.type #[v]).run P w' = .ok (goInt m) w' := by
    intro w'
    cases d <;> simp [lenKind] at hd
    case string =>
      subst hd
      cases hr <;> simp [isStr] at hk
      rename_i s
      injection hm with hm
      have hs : (⟨s.toArray⟩ : ByteArray).size = m := by rw [← hm]; exact (by simp [ByteArray.size])
      simp [Builtin.len_, run_underlying ht, hs]
    case slice =>
      subst hd
      rcases len_rep hr hm with ⟨ad, cap, rfl⟩ | ⟨s, rfl, hs⟩
      · simp [Builtin.len_, run_underlying ht]
      · cases hr <;> simp [isStr] at hk
        cases hm
  refine qok_same ?_ (.int _ _)
  simp only [execOp, ho, resolve]
  simp [invoke, builtin, hav, run]
  rfl

theorem q_cap (hE : EnvRep G (OwnF X st G) w n ρ a) {o : Oper} {t e : TypeId} {x : Operand} (ho : o.op = .call { callee := .builtin .cap, args := #[x], argTypes := #[t] }) (ht : P.underlying t = some (.slice e)) {y : Opd} (hy : cOpd x = some y) {m : Nat}
    (hm : cap? (y.ev ρ) = some m) : QOk P X st G w o a (.int .i64 m) := by
  have hr := opd_rep hE hy
  generalize hav : a.eval x = v at hr
  generalize hev : y.ev ρ = p at hr hm
  have hv : ∃ ad l, v = .slice ad l m := by
    unfold cap? at hm
    split at hm
    · injection hm with hm; subst hm; cases hr; exact ⟨_, _, rfl⟩
    · rename_i xs
      injection hm with hm
      subst hm
      cases hr with
      | sl _ _ b o cap sz adr u hcap hfull hadr hsz hc hr' =>
        have := hfull rfl
        subst this
        exact ⟨_, _, rfl⟩
    · rename_i t' g off len
      injection hm with hm
      subst hm
      cases hr with
      | osl _ _ _ _ _ L cap ad h hcap hL hfull ha =>
        have := hfull rfl
        subst this
        exact ⟨_, _, rfl⟩
    · cases hm
  obtain ⟨ad, l, rfl⟩ := hv
  refine qok_same ?_ (.int _ _)
  simp only [execOp, ho, resolve]
  simp [invoke, builtin, hav, Builtin.cap_, run_underlying ht]
  rfl

theorem minmaxI_run {own : Nat → Prop} {mx : Bool} {k : IntKind} : ∀ (r : List PV) (i : Int) {p : PV}, minmaxI mx k i r = some p → ∀ vs : List Value, vs.length = r.length → (∀ (j : Nat) (c : PV), r[j]? = some c → Rep G own w (vs.getD j undef) c) →
    ∃ u, (vs.foldlM (if mx then Builtin.max2 else Builtin.min2) (Value.int k i)).run P w = .ok u w ∧ Rep G own w u p
  | [], i, p, h, vs, hl, hv => by
    have : vs = [] := List.eq_nil_of_length_eq_zero hl
    subst this
    injection h with h
    subst h
    exact ⟨_, rfl, .int _ _⟩
  | c :: r, i, p, h, vs, hl, hv => by
    cases vs with
    | nil => simp at hl
    | cons v vs =>
      have h0 := hv 0 c rfl
      simp at h0
      cases c <;> simp only [minmaxI, reduceCtorEq] at h
      rename_i k' j
      have hj := rep_int h0
      subst hj
      obtain ⟨u, hu, hr⟩ := minmaxI_run r _ h vs (by simpa using hl) (fun m c hm => by simpa using hv (m + 1) c (by simpa using hm))
      refine ⟨u, ?_, hr⟩
      rw [List.foldlM_cons, Sem.run_bind]
      cases mx
      · simp only [Bool.false_eq_true, if_false, Builtin.min2, Sem.run_pure, Result.andThen_ok] at hu ⊢
        exact hu
      · simp only [if_true, Builtin.max2, Sem.run_pure, Result.andThen_ok] at hu ⊢
        exact hu
theorem q_minmax (hE : EnvRep G (OwnF X st G) w n ρ a) {o : Oper} {mx : Bool} {xs : Array Operand} {ts : Array TypeId} (ho : o.op = .call { callee := .builtin (if mx then .max else .min), args := xs, argTypes := ts }) {ys : List Opd} (hy : cOpds xs.toList = some ys) {p : PV}
    (hm : minmax? mx (ys.map (Opd.ev ρ)) = some p) : QOk P X st G w o a p := by
  obtain ⟨hl, hrep⟩ := opds_rep hE hy
  cases hys : ys.map (Opd.ev ρ) with
  | nil => rw [hys] at hm; cases hm
  | cons c r =>
    rw [hys] at hm hrep
    have hxs : ∃ v vs, xs.toList.map a.eval = v :: vs := by
      cases hh : xs.toList.map a.eval with
      | nil =>
        have h1 : xs.toList.length = 0 := by simpa using congrArg List.length hh
        have h2 : (ys.map (Opd.ev ρ)).length = r.length + 1 := by rw [hys]; rfl
        simp at h2
        omega
      | cons v vs => exact ⟨v, vs, rfl⟩
    obtain ⟨v, vs, hxs⟩ := hxs
    rw [hxs] at hrep
    have h0 := hrep 0 c rfl
    simp at h0
    cases c <;> simp only [minmax?, reduceCtorEq] at hm
    rename_i k i
    have hi := rep_int h0
    subst hi
    have hlen : vs.length = r.length := by
      have h1 : (xs.toList.map a.eval).length = vs.length + 1 := by rw [hxs]; rfl
      have h2 : (ys.map (Opd.ev ρ)).length = r.length + 1 := by rw [hys]; rfl
      simp at h1 h2
      have h3 : xs.toList.length = ys.length := hl
      simp at h3
      omega
    obtain ⟨u, hu, hr⟩ := minmaxI_run (P := P) (w := w) (G := G) (own := OwnF X st G) r i hm vs hlen (fun j c hj => by simpa using hrep (j + 1) c (by simpa using hj))
    refine qok_same (u := u) ?_ hr
    have hx2 : (xs.map a.eval).toList = Value.int k i :: vs := by simpa using hxs
    simp only [execOp, ho, resolve]
    cases mx
    · simp only [Bool.false_eq_true, if_false] at hu ⊢
      simp only [Sem.run_bind, Sem.run_pure, Result.andThen_ok, invoke, builtin, Builtin.min_, hx2, hu]
    · simp only [if_true] at hu ⊢
      simp only [Sem.run_bind, Sem.run_pure, Result.andThen_ok, invoke, builtin, Builtin.max_, hx2, hu]

/-! ### Putting together -/
theorem foldl_set (vs : Array Value) (off : Nat) : ∀ (l : List Value) (j : Nat) (cs : Array Value), off + (j + l.length) ≤ cs.size →
    ((l.zipIdx j).foldl (fun cs (p : Value × Nat) => cs.setIfInBounds (off + p.2) p.1) cs).size = cs.size ∧
    ∀ k, ((l.zipIdx j).foldl (fun cs (p : Value × Nat) => cs.setIfInBounds (off + p.2) p.1) cs)[k]? = if off + j ≤ k ∧ k < off + (j + l.length) then l[k - (off + j)]? else cs[k]?
  | [], j, cs, h => by
    refine ⟨rfl, fun k => ?_⟩
    rw [if_neg (by simp only [List.length_nil]; omega)]
    rfl
  | x :: l, j, cs, h => by
    simp only [List.length_cons] at h
    obtain ⟨h1, h2⟩ := foldl_set vs off l (j + 1) (cs.setIfInBounds (off + j) x) (by simp; omega)
    refine ⟨by simpa using h1, fun k => ?_⟩
    simp only [List.zipIdx_cons, List.foldl_cons]
    rw [h2 k]
    by_cases hk : k = off + j
    · subst hk
      rw [if_neg (by omega), if_pos (by simp only [List.length_cons]; omega)]
      simp [Array.getElem?_setIfInBounds]
      omega
    · by_cases hk2 : off + (j + 1) ≤ k ∧ k < off + (j + 1 + l.length)
      · rw [if_pos hk2, if_pos (by simp only [List.length_cons]; omega)]
        rw [show k - (off + j) = (k - (off + (j + 1))) + 1 by omega]
        simp
      · rw [if_neg hk2, if_neg (by simp only [List.length_cons]; omega)]
        rw [Array.getElem?_setIfInBounds, if_neg (by omega)]

def CellsRep (G : Gh) (own : Nat → Prop) (w : World) (cells : Array Value) (zs : List PV) : Prop :=
  cells.size = zs.length ∧ ∀ (j : Nat) (c : PV), zs[j]? = some c → Rep G own w (cells.getD j undef) c

theorem junk_ne {p : PV} (h : p.isJunk = false) : p ≠ .junk := by intro e; subst e; cases h

/-- One part laid. -/
theorem put_part {own : Nat → Prop} {cells : Array Value} {zs : List PV} (hc : CellsRep G own w cells zs) {v : Value} {p : PV} (hr : Rep G own w v p) (hp : p.isJunk = false) {off : Nat} (ho : off + p.cells.length ≤ zs.length) :
    CellsRep G own w (v.cells.zipIdx.foldl (fun cs (c, j) => cs.setIfInBounds (off + j) c) cells) (zs.take off ++ p.cells ++ zs.drop (off + p.cells.length)) := by
  obtain ⟨h1, h2⟩ := rep_cells hr (junk_ne hp)
  have hf := foldl_set v.cells off v.cells.toList 0 cells (by simp [h1, hc.1]; omega)
  have he : v.cells.zipIdx.foldl (fun cs (c, j) => cs.setIfInBounds (off + j) c) cells = (v.cells.toList.zipIdx 0).foldl (fun cs (p : Value × Nat) => cs.setIfInBounds (off + p.2) p.1) cells := by
    rw [← Array.foldl_toList]
    simp
  rw [he]
  refine ⟨by rw [hf.1, hc.1]; simp; omega, fun j c hj => ?_⟩
  rw [Array.getD_eq_getD_getElem?, hf.2 j]
  simp only [Nat.zero_add, Nat.add_zero, Array.length_toList, h1]
  rw [List.append_assoc, List.getElem?_append] at hj
  have hlt : (zs.take off).length = off := by simp; omega
  rw [hlt] at hj
  split at hj
  · rename_i hj1
    rw [if_neg (by omega)]
    rw [List.getElem?_take, if_pos hj1] at hj
    have := hc.2 j c hj
    rwa [Array.getD_eq_getD_getElem?] at this
  · rename_i hj1
    rw [List.getElem?_append] at hj
    split at hj
    · rename_i hj2
      rw [if_pos (by omega)]
      have := h2 _ c hj
      simpa [Array.getD_eq_getD_getElem?] using this
    · rename_i hj2
      rw [if_neg (by omega)]
      rw [List.getElem?_drop] at hj
      have := hc.2 _ c hj
      rw [Array.getD_eq_getD_getElem?] at this
      rwa [show off + p.cells.length + (j - off - p.cells.length) = j by omega] at this

theorem fill_rep {own : Nat → Prop} {place : Nat → Option (Nat × Nat)} : ∀ (ps : List (Nat × Value)) (qs : List (Nat × Nat × PV)) (cells : Array Value) (zs out : List PV), ps.length = qs.length →
    (∀ (j : Nat) (i : Nat) (v : Value) (off k : Nat) (p : PV), ps[j]? = some (i, v) → qs[j]? = some (off, k, p) → place i = some (off, k) ∧ Rep G own w v p) → CellsRep G own w cells zs → fillParts zs qs = some out →
    ∃ cells', Instr.fill place cells ps = some cells' ∧ CellsRep G own w cells' out
  | [], qs, cells, zs, out, hl, hp, hc, h => by
    have : qs = [] := List.eq_nil_of_length_eq_zero (by simpa using hl.symm)
    subst this
    injection h with h
    subst h
    exact ⟨cells, rfl, hc⟩
  | (i, v) :: ps, qs, cells, zs, out, hl, hp, hc, h => by
    cases qs with
    | nil => simp at hl
    | cons q qs =>
      obtain ⟨off, k, p⟩ := q
      obtain ⟨h1, h2⟩ := hp 0 i v off k p rfl rfl
      simp only [fillParts] at h
      split at h
      · rename_i hcond
        obtain ⟨hj, hk, ho⟩ := hcond
        subst hk
        have hcells := rep_cells h2 (junk_ne hj)
        have hpp := put_part hc h2 hj ho
        obtain ⟨cells', hf, hr⟩ := fill_rep ps qs _ _ out (by simpa using hl) (fun j i v off k p hj hq => hp (j + 1) i v off k p (by simpa using hj) (by simpa using hq)) hpp h
        refine ⟨cells', ?_, hr⟩
        simp only [Instr.fill, h1]
        have k1 := hcells.1
        have k2 := hc.1
        rw [if_neg (by simp [k1]; omega)]
        exact hf
      · cases h

/-- Parts of a struct or an array, their places reckoned. -/
def cParts (place : Nat → Option (Nat × Nat)) : List (Nat × Operand) → Option (List (Nat × Nat × Opd))
  | [] => some []
  | (i, x) :: r => match place i, cOpd x, cParts place r with
    | some (off, k), some y, some ys => some ((off, k, y) :: ys)
    | _, _, _ => none
theorem parts_rep (hE : EnvRep G (OwnF X st G) w n ρ a) {place : Nat → Option (Nat × Nat)} : ∀ {ps : List (Nat × Operand)} {qs : List (Nat × Nat × Opd)}, cParts place ps = some qs → (ps.map fun (p : Nat × Operand) => (p.1, a.eval p.2)).length = (qs.map fun p => (p.1, p.2.1, p.2.2.ev ρ)).length ∧
    ∀ (j : Nat) (i : Nat) (v : Value) (off k : Nat) (p : PV), (ps.map fun (p : Nat × Operand) => (p.1, a.eval p.2))[j]? = some (i, v) → (qs.map fun p => (p.1, p.2.1, p.2.2.ev ρ))[j]? = some (off, k, p) → place i = some (off, k) ∧ Rep G (OwnF X st G) w v p
  | [], qs, h => by injection h with h; subst h; exact ⟨rfl, fun j i v off k p hj => by simp at hj⟩
  | (i0, x) :: ps, qs, h => by
    simp only [cParts] at h
    split at h
    · rename_i off0 k0 y ys h1 h2 h3
      injection h with h
      subst h
      obtain ⟨e1, e2⟩ := parts_rep hE h3
      refine ⟨by simpa using e1, fun j i v off k p hj hq => ?_⟩
      cases j with
      | zero =>
        simp at hj hq
        obtain ⟨rfl, rfl⟩ := hj
        obtain ⟨rfl, rfl, rfl⟩ := hq
        exact ⟨h1, opd_rep hE h2⟩
      | succ j => exact e2 j i v off k p (by simpa using hj) (by simpa using hq)
    · cases h

/-- A type's zero cells. -/
def zeroOf (P : Program) (t : TypeId) : Option (List PV) :=
  match tyOf P t with
  | some (_, i) => match i.zero with
    | some z => match cVal z with
      | some p => if p.isJunk = false then some p.cells else none
      | none => none
    | none => none
  | none => none
theorem zeroOf_spec {own : Nat → Prop} {t : TypeId} {zs : List PV} (h : zeroOf P t = some zs) : ∃ z, (∀ w' : World, (zeroValue t).run P w' = .ok z w') ∧ CellsRep G own w z.cells zs := by
  unfold zeroOf at h
  split at h
  · rename_i d i hT
    split at h
    · rename_i z hz
      split at h
      · rename_i p hp
        split at h
        · rename_i hj
          injection h with h
          subst h
          exact ⟨z, fun w' => run_zeroValue hT hz, rep_cells (cVal_rep hp) (junk_ne hj)⟩
        · cases h
      · cases h
    · cases h
  · cases h

def placesOf (P : Program) (fs : Array Field) (i : Nat) : Option (Nat × Nat) :=
  match fs[i]? with
  | some f => match tyOf P f.type with
    | some (_, inf) => some (f.offset, inf.size)
    | none => none
  | none => none
def cBuild (P : Program) (t : TypeId) (parts : List (Nat × Operand)) : Option PI :=
  match zeroOf P t, P.underlying t with
  | some zs, some (.struct fs) =>
    if fs.all (fun f => (tyOf P f.type).isSome) then (cParts (placesOf P fs) parts).map (.build zs) else none
  | some zs, some (.array _ e) => match tyOf P e with
    | some (_, i) => (cParts (fun j => some (j * i.size, i.size)) parts).map (.build zs)
    | none => none
  | _, _ => none
theorem mapM_places : ∀ (fs : List Field), fs.all (fun f => (tyOf P f.type).isSome) = true → ∀ w' : World, (fs.mapM fun f => do pure (f.offset, ← sizeOf f.type) : Sem (List (Nat × Nat))).run P w' = .ok (fs.map fun f => (f.offset, P.cellsOf f.type)) w'
  | [], _, w' => rfl
  | f :: fs, h, w' => by
    simp only [List.all_cons, Bool.and_eq_true] at h
    obtain ⟨⟨d, i⟩, hT⟩ := Option.isSome_iff_exists.1 h.1
    have ih := mapM_places fs h.2
    have hs : P.cellsOf f.type = i.size := by simp [Program.cellsOf, (tyOf_spec hT).2]
    simp only [List.mapM_cons, Sem.run_bind, run_sizeOf hT, Result.andThen_ok, Sem.run_pure, ih, List.map_cons, hs]
theorem q_build (hE : EnvRep G (OwnF X st G) w n ρ a) {o : Oper} {t : TypeId} {parts : Array (Nat × Operand)} (ho : o.op = .build t parts) {pi : PI} (hc : cBuild P t parts.toList = some pi) {p : PV} (hq : quiet st.get (Opd.ev ρ) pi = some p) : QOk P X st G w o a p := by
  have hpl : (parts.map fun (i, x) => (i, a.eval x)).toList = parts.toList.map fun (p : Nat × Operand) => (p.1, a.eval p.2) := by simp
  unfold cBuild at hc
  split at hc
  · rename_i zs fs hz hU
    split at hc
    · rename_i hall
      obtain ⟨qs, hqs, rfl⟩ := Option.map_eq_some_iff.1 hc
      simp only [quiet] at hq
      obtain ⟨out, hout, rfl⟩ := Option.map_eq_some_iff.1 hq
      obtain ⟨z, hzr, hzc⟩ := zeroOf_spec (G := G) (own := OwnF X st G) (w := w) hz
      obtain ⟨e1, e2⟩ := parts_rep hE hqs
      have hplace : ∀ i off k, placesOf P fs i = some (off, k) → (fs.toList.map fun f => (f.offset, P.cellsOf f.type))[i]? = some (off, k) := by
        intro i off k h
        unfold placesOf at h
        split at h
        · rename_i f hf
          split at h
          · rename_i d inf hT
            injection h with h
            simp only [Prod.mk.injEq] at h
            obtain ⟨rfl, rfl⟩ := h
            simp [hf, Program.cellsOf, (tyOf_spec hT).2]
          · cases h
        · cases h
      obtain ⟨cells', hf, hr⟩ := fill_rep (place := fun i => (fs.toList.map fun f => (f.offset, P.cellsOf f.type)).toArray[i]?) _ _ _ _ _ e1 (fun j i v off k p hj hq => by
        obtain ⟨k1, k2⟩ := e2 j i v off k p hj hq
        exact ⟨by simpa using hplace _ _ _ k1, k2⟩) hzc hout
      refine qok_same (u := .agg cells') ?_ (.agg _ _ hr.1 hr.2)
      have hm : ∀ w' : World, (fs.mapM fun f => do pure (f.offset, ← sizeOf f.type) : Sem (Array (Nat × Nat))).run P w' = .ok (fs.toList.map fun f => (f.offset, P.cellsOf f.type)).toArray w' := by
        intro w'
        rw [Array.mapM_eq_mapM_toList, Sem.run_map, mapM_places fs.toList (by simpa using hall) w']
        rfl
      simp only [execOp, ho, Instr.build]
      rw [Sem.run_bind, Sem.run_bind, hzr, Result.andThen_ok, Sem.run_bind, run_underlying hU, Result.andThen_ok]
      simp only
      rw [Sem.run_bind, hm, Result.andThen_ok]
      simp only [hpl, hf]
      simp
    · cases hc
  · rename_i zs len e hz hU
    split at hc
    · rename_i d i hT
      obtain ⟨qs, hqs, rfl⟩ := Option.map_eq_some_iff.1 hc
      simp only [quiet] at hq
      obtain ⟨out, hout, rfl⟩ := Option.map_eq_some_iff.1 hq
      obtain ⟨z, hzr, hzc⟩ := zeroOf_spec (G := G) (own := OwnF X st G) (w := w) hz
      obtain ⟨e1, e2⟩ := parts_rep hE hqs
      obtain ⟨cells', hf, hr⟩ := fill_rep (place := fun j => some (j * i.size, i.size)) _ _ _ _ _ e1 e2 hzc hout
      refine qok_same (u := .agg cells') ?_ (.agg _ _ hr.1 hr.2)
      simp only [execOp, ho, Instr.build]
      rw [Sem.run_bind, Sem.run_bind, hzr, Result.andThen_ok, Sem.run_bind, run_underlying hU, Result.andThen_ok]
      simp only
      rw [Sem.run_bind, run_sizeOf hT, Result.andThen_ok]
      simp only [hpl, hf]
      simp
    · cases hc
  · cases hc

end
end Go.AM

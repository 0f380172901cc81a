/- AM12: rows that are made, appended to, copied into. -/
import Derived.Test.YthoknkogdldgcaaAm11
set_option linter.unusedVariables false
set_option linter.unusedSimpArgs false
namespace Go.AM
open Go.RowKit

section
variable {P : Program} {X : Cx} {st : St} {G : Gh} {w : World} {n : Nat} {ρ : Env} {a : Act}

/-- So many zero elements' cells. -/
def zerosOf (z : Array Value) (m : Nat) : Array Value := (Array.range m).map (z[· % z.size]!)
theorem zerosOf_size (z : Array Value) (m : Nat) : (zerosOf z m).size = m := by simp [zerosOf]
theorem zerosOf_rep {own : Nat → Prop} {z : Array Value} {zs : List PV} (h : CellsRep G own w z zs) {sz : Nat} (hs : zs.length = sz) (hp : 0 < sz) (m : Nat) {j i : Nat} {p : PV} (hj : j * sz + i < m) (hi : zs[i]? = some p) : Rep G own w ((zerosOf z m).getD (j * sz + i) undef) p := by
  have hlt : i < sz := by rw [← hs]; exact (List.getElem?_eq_some_iff.1 hi).1
  have hmod : (j * sz + i) % z.size = i := by rw [h.1, hs, Nat.mul_comm, Nat.mul_add_mod, Nat.mod_eq_of_lt hlt]
  have hiz : i < z.size := by rw [h.1, hs]; exact hlt
  have := h.2 i p hi
  rw [Array.getD_eq_getD_getElem?, Array.getElem?_eq_getElem hiz] at this
  have e : (zerosOf z m).getD (j * sz + i) undef = z[i] := by
    rw [Array.getD_eq_getD_getElem?]
    simp [zerosOf, hj, hmod, hiz]
  rw [e]
  exact this

theorem okEls_all {sz : Nat} {es : List (List PV)} (h : okEls sz es = true) : allOf sz es = true ∧ es.flatten.all PV.one = true := by
  simp only [okEls, List.all_eq_true, Bool.and_eq_true, beq_iff_eq] at h
  refine ⟨List.all_eq_true.2 fun cs hcs => by simpa using (h cs hcs).1, List.all_eq_true.2 fun p hp => ?_⟩
  obtain ⟨cs, h1, h2⟩ := List.mem_flatten.1 hp
  exact (h cs h1).2 p h2

/-- The cells of elements, one behind the other. -/
theorem cells_flat {own : Nat → Prop} {c : Array Value} {es : List (List PV)} {sz : Nat} (hall : allOf sz es = true) (hs : es.length * sz ≤ c.size)
    (h : ∀ (j i : Nat) (cs : List PV) (p : PV), es[j]? = some cs → cs[i]? = some p → Rep G own w (c.getD (j * sz + i) undef) p) (q : Nat) (p : PV) (hq : es.flatten[q]? = some p) : Rep G own w (c.getD q undef) p := by
  obtain ⟨hl, hg⟩ := flatten_get hall
  have hql : q < es.length * sz := by rw [← hl]; exact (List.getElem?_eq_some_iff.1 hq).1
  have hsz : 0 < sz := by
    rcases Nat.eq_zero_or_pos sz with h0 | h0
    · subst h0; simp at hql
    · exact h0
  have e : q / sz * sz + q % sz = q := by rw [Nat.mul_comm]; exact Nat.div_add_mod q sz
  rw [← e, hg _ _ (Nat.mod_lt _ hsz)] at hq
  obtain ⟨cs, h1, h2⟩ := Option.bind_eq_some_iff.1 hq
  have := h _ _ _ _ h1 h2
  rwa [e] at this
theorem flat_cells {own : Nat → Prop} {c : Array Value} {es : List (List PV)} {sz : Nat} (hall : allOf sz es = true) (h : CellsRep G own w c es.flatten) {j i : Nat} {cs : List PV} {p : PV} (hj : es[j]? = some cs) (hi : cs[i]? = some p) : Rep G own w (c.getD (j * sz + i) undef) p := by
  obtain ⟨hl, hg⟩ := flatten_get hall
  have hil : i < sz := by rw [← allOf_spec hall hj]; exact (List.getElem?_eq_some_iff.1 hi).1
  exact h.2 _ _ (by rw [hg _ _ hil, hj]; exact hi)

theorem fillElems_flat {sz : Nat} : ∀ (qs : List (Nat × PV)) (es out : List (List PV)), allOf sz es = true → fillElems sz es qs = some out → fillParts es.flatten (qs.map fun q => (q.1 * sz, sz, q.2)) = some out.flatten ∧ allOf sz out = true ∧ out.length = es.length
  | [], es, out, ha, h => by injection h with h; subst h; exact ⟨rfl, ha, rfl⟩
  | (k, x) :: qs, es, out, ha, h => by
    simp only [fillElems] at h
    split at h
    · rename_i hc
      obtain ⟨h1, h2, h3⟩ := hc
      have ha' : allOf sz (es.set k x.cells) = true := by
        refine List.all_eq_true.2 fun cs hcs => ?_
        rcases List.mem_or_eq_of_mem_set hcs with h4 | h4
        · exact (List.all_eq_true.1 ha) cs h4
        · subst h4; simpa using h2
      obtain ⟨k1, k2, k3⟩ := fillElems_flat qs _ out ha' h
      obtain ⟨hl, hg⟩ := flatten_get ha
      obtain ⟨hl', hg'⟩ := flatten_get ha'
      have hbd : k * sz + sz ≤ es.length * sz := by
        have : (k + 1) * sz ≤ es.length * sz := Nat.mul_le_mul_right _ h3
        rw [Nat.add_mul] at this
        omega
      have hset : es.flatten.take (k * sz) ++ x.cells ++ es.flatten.drop (k * sz + sz) = (es.set k x.cells).flatten := by
        apply List.ext_getElem?
        intro q
        rcases Nat.eq_zero_or_pos sz with h0 | hsz
        · subst h0
          have e1 : es.flatten = [] := List.eq_nil_of_length_eq_zero (by rw [hl]; simp)
          have e2 : (es.set k x.cells).flatten = [] := List.eq_nil_of_length_eq_zero (by rw [hl']; simp)
          have e3 : x.cells = [] := List.eq_nil_of_length_eq_zero h2
          rw [e2]
          simp [e1, e3]
        have e : q / sz * sz + q % sz = q := by rw [Nat.mul_comm]; exact Nat.div_add_mod q sz
        have hmod := Nat.mod_lt q hsz
        rw [show (es.set k x.cells).flatten[q]? = ((es.set k x.cells)[q / sz]?).bind (·[q % sz]?) by rw [← hg' _ _ hmod, e]]
        rw [List.append_assoc, List.getElem?_append]
        have hlt : (es.flatten.take (k * sz)).length = k * sz := by rw [List.length_take, hl]; omega
        rw [hlt]
        by_cases c1 : q < k * sz
        · rw [if_pos c1, List.getElem?_take, if_pos c1]
          have hqk : q / sz < k := (Nat.div_lt_iff_lt_mul hsz).2 c1
          rw [List.getElem?_set, if_neg (by omega), ← hg _ _ hmod, e]
        · rw [if_neg c1, List.getElem?_append]
          by_cases c2 : q - k * sz < x.cells.length
          · rw [if_pos c2]
            have hqk : q / sz = k := by
              apply Nat.div_eq_of_lt_le
              · omega
              · rw [Nat.add_mul]; omega
            rw [List.getElem?_set, if_pos hqk.symm]
            simp only [hqk, h3, if_true, Option.bind_some]
            rw [hqk] at e
            congr 1
            omega
          · rw [if_neg c2, List.getElem?_drop]
            have hqk : k < q / sz := by
              rw [Nat.lt_iff_add_one_le, Nat.le_div_iff_mul_le hsz, Nat.add_mul]
              omega
            rw [List.getElem?_set, if_neg (by omega), ← hg _ _ hmod, e]
            congr 1
            omega
      refine ⟨?_, k2, by simpa using k3⟩
      simp only [List.map_cons, fillParts]
      rw [if_pos ⟨h1, h2, by rw [hl]; exact hbd⟩, hset]
      exact k1
    · cases h

def cBuildSl (P : Program) (t : TypeId) (len : Nat) (parts : List (Nat × Operand)) : Option PI :=
  match P.underlying t with
  | some (.slice e) => match tyOf P e, zeroOf P e with
    | some (_, i), some zs => if zs.length = i.size ∧ 0 < i.size ∧ len * i.size ≤ 16777216 then
        (cParts (fun j => some (j * i.size, i.size)) parts).map fun qs => .buildSl i.size (List.replicate len zs) (qs.map fun q => (q.1 / i.size, q.2.2)) else none
    | _, _ => none
  | _ => none
theorem parts_places {place : Nat → Option (Nat × Nat)} : ∀ {ps : List (Nat × Operand)} {qs : List (Nat × Nat × Opd)}, cParts place ps = some qs → ∀ q ∈ qs, ∃ i, place i = some (q.1, q.2.1)
  | [], qs, h => by injection h with h; subst h; intro q hq; cases hq
  | (i0, x) :: ps, qs, h => by
    simp only [cParts] at h
    split at h
    · rename_i off0 k0 y ys h1 h2 h3
      injection h with h
      subst h
      intro q hq
      rcases List.mem_cons.1 hq with rfl | hq
      · exact ⟨i0, h1⟩
      · exact parts_places h3 q hq
    · cases h

/-- What a literal of a slice makes. -/
theorem run_buildSl (hI : Inv X st G w) (hE : EnvRep G (OwnF X st G) w n ρ a) {o : Oper} {t : TypeId} {len : Nat} {parts : Array (Nat × Operand)} (ho : o.op = .buildSlice t len parts) {sz : Nat} {zero : List (List PV)} {ps : List (Nat × Opd)} (hc : cBuildSl P t len parts.toList = some (.buildSl sz zero ps)) {es : List (List PV)}
    (hes : fillElems sz zero (ps.map fun p => (p.1, p.2.ev ρ)) = some es) : ∃ c e, (execOp a.eval o).run P w = .ok (.value (.slice (some ⟨w.heap.size, 0, none⟩) len len)) (w.alloc (.cells c e)) ∧ allOf sz es = true ∧ es.length = len ∧ CellsRep G (OwnF X st G) w c es.flatten := by
  have hpl : (parts.map fun (i, x) => (i, a.eval x)).toList = parts.toList.map fun (p : Nat × Operand) => (p.1, a.eval p.2) := by simp
  unfold cBuildSl at hc
  split at hc
  · rename_i e hU
    split at hc
    · rename_i d i zs hT hz
      split at hc
      · rename_i hcond
        obtain ⟨hzl, hpos, hlen⟩ := hcond
        obtain ⟨qs, hqs, he⟩ := Option.map_eq_some_iff.1 hc
        injection he with e1 e2 e3
        subst e1 e2 e3
        obtain ⟨z, hzr, hzc⟩ := zeroOf_spec (G := G) (own := OwnF X st G) (w := w) hz
        have hall0 : allOf i.size (List.replicate len zs) = true := List.all_eq_true.2 fun cs hcs => by rw [List.eq_of_mem_replicate hcs]; simpa using hzl
        have hq : (qs.map fun q => (q.1 / i.size, q.2.2)).map (fun p => (p.1, p.2.ev ρ)) = qs.map fun q => (q.1 / i.size, q.2.2.ev ρ) := by simp
        rw [hq] at hes
        obtain ⟨f1, f2, f3⟩ := fillElems_flat _ _ _ hall0 hes
        have hpp : (qs.map fun q => (q.1 / i.size, q.2.2.ev ρ)).map (fun q => (q.1 * i.size, i.size, q.2)) = qs.map fun p => (p.1, p.2.1, p.2.2.ev ρ) := by
          rw [List.map_map]
          apply List.map_congr_left
          intro q hq
          obtain ⟨j, hj⟩ := parts_places hqs q hq
          injection hj with hj
          simp only [Prod.mk.injEq] at hj
          obtain ⟨hj1, hj2⟩ := hj
          simp only [Function.comp]
          rw [← hj1, Nat.mul_div_cancel _ hpos, hj2]
        rw [hpp] at f1
        obtain ⟨g1, g2⟩ := parts_rep hE hqs
        have hz0 : CellsRep G (OwnF X st G) w (zerosOf z.cells (len * i.size)) (List.replicate len zs).flatten := by
          refine ⟨by rw [zerosOf_size, (flatten_get hall0).1]; simp, fun q p hq => ?_⟩
          refine cells_flat hall0 (by rw [zerosOf_size]; simp) (fun j k cs p hj hk => ?_) q p hq
          have hcs : cs = zs := List.eq_of_mem_replicate (List.mem_of_getElem? hj)
          subst hcs
          have hjl : j < len := by simpa using (List.getElem?_eq_some_iff.1 hj).1
          have hkl : k < i.size := by rw [← hzl]; exact (List.getElem?_eq_some_iff.1 hk).1
          exact zerosOf_rep hzc hzl hpos _ (mul_lt_of hjl hkl) hk
        obtain ⟨cells', hf, hr⟩ := fill_rep (place := fun j => some (j * i.size, i.size)) _ _ _ _ _ g1 g2 hz0 f1
        refine ⟨cells', e, ?_, f2, by simpa using f3, hr⟩
        simp only [execOp, ho, Instr.buildSlice]
        rw [Sem.run_bind, Sem.run_bind, run_underlying hU, Result.andThen_ok]
        simp only
        rw [Sem.run_bind, run_sizeOf hT, Result.andThen_ok]
        rw [if_neg (by omega)]
        by_cases h0 : len * i.size = 0
        · have hl0 : len = 0 := by
            rcases Nat.mul_eq_zero.1 h0 with h | h
            · exact h
            · omega
          subst hl0
          simp only [Nat.zero_mul, if_true, zerosOf] at hf ⊢
          simp only [hpl]
          have hf' : Instr.fill (fun i_1 => some (i_1 * i.size, i.size)) (Array.map (fun x => (#[] : Array Value)[x % (#[] : Array Value).size]!) (Array.range 0)) (parts.toList.map fun (p : Nat × Operand) => (p.1, a.eval p.2)) = some cells' := by
            have e0 : ∀ f : Nat → Value, Array.map f (Array.range 0) = #[] := fun f => by simp
            rw [e0] at hf ⊢
            exact hf
          simp only [Sem.run_bind, Sem.run_pure, Result.andThen_ok]
          rw [hf']
          simp [newRow]
        · rw [if_neg h0]
          simp only [Sem.run_bind, hzr, Result.andThen_ok, Sem.run_pure, hpl]
          unfold zerosOf at hf
          rw [hf]
          simp [newRow]
      · cases hc
    · cases hc
  · cases hc

theorem q_buildSl (hI : Inv X st G w) (hE : EnvRep G (OwnF X st G) w n ρ a) {o : Oper} {t : TypeId} {len : Nat} {parts : Array (Nat × Operand)} (ho : o.op = .buildSlice t len parts) {sz : Nat} {zero : List (List PV)} {ps : List (Nat × Opd)} (hc : cBuildSl P t len parts.toList = some (.buildSl sz zero ps)) {es : List (List PV)}
    (hes : fillElems sz zero (ps.map fun p => (p.1, p.2.ev ρ)) = some es) : QOk P X st G w o a (.sl es true) := by
  obtain ⟨c, e, hrun, hall, hl, hr⟩ := run_buildSl (P := P) hI hE ho hc hes
  refine ⟨_, _, hrun, alloc_below _ _, new_imm hI (alloc_below _ _) (alloc_new w c e) hall (by omega) (fun _ => hl.symm) (by rw [hr.1, (flatten_get hall).1]; exact Nat.le_refl _) (fun j i cs p hj hi => flat_cells hall hr hj hi) hl.symm⟩
theorem l_buildSl (hI : Inv X st G w) (hE : EnvRep G (OwnF X st G) w n ρ a) {o : Oper} {t : TypeId} {len : Nat} {parts : Array (Nat × Operand)} (ho : o.op = .buildSlice t len parts) {sz : Nat} {zero : List (List PV)} {ps : List (Nat × Opd)} (hc : cBuildSl P t len parts.toList = some (.buildSl sz zero ps)) {es : List (List PV)}
    (hes : fillElems sz zero (ps.map fun p => (p.1, p.2.ev ρ)) = some es) : LOk P X st G w o a (.osl st.next 0 0 es.length false) (st.new (.row 0 sz es true)) := by
  obtain ⟨c, e, hrun, hall, hl, hr⟩ := run_buildSl (P := P) hI hE ho hc hes
  obtain ⟨G', h1, h2, h3⟩ := new_row hI (alloc_below w (.cells c e)) (by rw [alloc_size]; omega) (alloc_new w c e) hall (Nat.le_of_eq hl) (by rw [hr.1, (flatten_get hall).1, hl]) (fun q hq => by simp) (fun j i cs p hj hi => flat_cells hall hr hj hi) (len := len) hl.symm
  refine ⟨_, _, _, G', hrun, rfl, h1, h2, ?_⟩
  rw [hl]
  exact h3

theorem roomInt : ((roomLen : Nat) : Int) = 140737488355328 := rfl
/-! ### make -/
def cMakeSl (P : Program) (t : TypeId) (l c : Operand) : Option PI :=
  match P.underlying t with
  | some (.slice e) => match tyOf P e, zeroOf P e, cOpd l, cOpd c with
    | some (_, i), some zs, some l', some c' => if zs.length = i.size ∧ 0 < i.size ∧ 0 < i.bytes then some (.makeSl i.size zs i.bytes l' c') else none
    | _, _, _, _ => none
  | _ => none
theorem l_makeSl (hI : Inv X st G w) (hE : EnvRep G (OwnF X st G) w n ρ a) {o : Oper} {t : TypeId} {l c : Operand} (ho : o.op = .makeSlice t l c) {pi : PI} (hc : cMakeSl P t l c = some pi) {p : PV} {st' : St} (hq : loud st (Opd.ev ρ) pi = some (p, st')) : LOk P X st G w o a p st' := by
  unfold cMakeSl at hc
  split at hc
  · rename_i e hU
    split at hc
    · rename_i d i zs l' c' hT hz hl hcc
      split at hc
      · rename_i hcond
        obtain ⟨hzl, hpos, hby⟩ := hcond
        injection hc with hc
        subst hc
        simp only [loud] at hq
        split at hq
        · rename_i k1 li k2 ci hle hce
          have rl := opd_rep hE hl
          have rc := opd_rep hE hcc
          rw [hle] at rl
          rw [hce] at rc
          have hl1 := rep_int rl
          have hc1 := rep_int rc
          split at hq
          · rename_i hb
            obtain ⟨_, h0, h1, h2⟩ := hb
            injection hq with hq
            simp only [Prod.mk.injEq] at hq
            obtain ⟨rfl, rfl⟩ := hq
            obtain ⟨z, hzr, hzc⟩ := zeroOf_spec (G := G) (own := OwnF X st G) (w := w) hz
            have hcb : ci ≤ 140737488355328 := by
              have : ci * 1 ≤ ci * (i.bytes : Int) := Int.mul_le_mul_of_nonneg_left (by omega) (by omega)
              rw [roomInt] at h2
              omega
            have hall : allOf i.size (List.replicate li.toNat zs) = true := List.all_eq_true.2 fun cs hcs => by rw [List.eq_of_mem_replicate hcs]; simpa using hzl
            obtain ⟨G', e1, e2, e3⟩ := new_row hI (es := List.replicate li.toNat zs) (sz := i.size) (cap := ci.toNat) (alloc_below w (.cells (zerosOf z.cells (ci.toNat * i.size)) e)) (by rw [alloc_size]; omega) (alloc_new w _ e) hall (by simp; omega) (by rw [zerosOf_size]) (fun q hq => by simp)
              (fun j k cs p hj hk => by
                have hcs : cs = zs := List.eq_of_mem_replicate (List.mem_of_getElem? hj)
                subst hcs
                have hjl : j < li.toNat := by simpa using (List.getElem?_eq_some_iff.1 hj).1
                have hkl : k < i.size := by rw [← hzl]; exact (List.getElem?_eq_some_iff.1 hk).1
                exact zerosOf_rep hzc hzl hpos _ (mul_lt_of (by omega) hkl) hk) (len := li.toNat) (by simp)
            refine ⟨.value (.slice (some ⟨w.heap.size, 0, none⟩) li.toNat ci.toNat), _, _, G', ?_, rfl, e1, e2, e3⟩
            have hw64 : ∀ x : Int, 0 ≤ x → x ≤ 140737488355328 → IntKind.i64.wrap x = x := by
              intro x hx1 hx2
              have e : IntKind.i64.wrap x = if (true && decide (x % 18446744073709551616 ≥ 9223372036854775808)) = true then x % 18446744073709551616 - 18446744073709551616 else x % 18446744073709551616 := rfl
              rw [e, Int.emod_eq_of_lt hx1 (by omega), if_neg (by simp; omega)]
            have hbi : (i.bytes : Int) * ci ≤ 281474976710656 := by
              rw [roomInt] at h2
              rw [Int.mul_comm]
              omega
            have hbl : (i.bytes : Int) * li ≤ 281474976710656 := Int.le_trans (Int.mul_le_mul_of_nonneg_left h1 (by omega)) hbi
            simp only [execOp, ho, Instr.makeSlice, hl1, hc1]
            simp only [Sem.run_bind, run_underlying hU, Result.andThen_ok, asInt, asIntOf, Sem.run_pure, typeInfo, run_program, (tyOf_spec hT).2, hw64 li h0 (by omega), hw64 ci (by omega) hcb]
            have p48 : (2 : Int) ^ 48 = 281474976710656 := by decide
            have t1 : (decide (ci < 0) || decide ((i.bytes : Int) * ci > 2 ^ 48) || decide (li < 0) || decide (li > ci)) = false := by
              rw [decide_eq_false (show ¬ ci < 0 by omega), decide_eq_false (show ¬ (i.bytes : Int) * ci > 2 ^ 48 by omega), decide_eq_false (show ¬ li < 0 by omega), decide_eq_false (show ¬ li > ci by omega)]
              rfl
            rw [t1]
            simp only [Bool.false_eq_true, if_false, Sem.run_bind, Sem.run_pure, Result.andThen_ok, run_askRoom, run_sizeOf hT]
            have hempty : ∀ z : Array Value, ci.toNat * i.size = 0 → Array.map (fun x => z[x % z.size]!) (Array.range (ci.toNat * i.size)) = zerosOf z (ci.toNat * i.size) := fun z h => rfl
            by_cases hz0 : ci.toNat * i.size = 0
            · have e0 : ∀ f : Nat → Value, Array.map f (Array.range 0) = #[] := fun f => by simp
              simp only [hz0, if_true, Sem.run_bind, Sem.run_pure, Result.andThen_ok, newRow, run_newObj, e0, zerosOf]
              rfl
            · rw [if_neg hz0]
              simp only [Sem.run_bind, hzr, Sem.run_pure, Result.andThen_ok, newRow, run_newObj, zerosOf]
              rfl
          · cases hq
        · cases hq
      · cases hc
    · cases hc
  · cases hc
end
end Go.AM

/- AM15: copy; texts turned to bytes of one's own; the operations all together. -/
import Derived.Test.YthoknkogdldgcaaAm14
set_option linter.unusedVariables false
set_option linter.unusedSimpArgs false
namespace Go.AM
open Go.RowKit

section
variable {P : Program} {X : Cx} {st : St} {G : Gh} {w : World} {n : Nat} {ρ : Env} {a : Act}

theorem l_toBytes (hI : Inv X st G w) (hE : EnvRep G (OwnF X st G) w n ρ a) {o : Oper} {s t e : TypeId} {x : Operand} (ho : o.op = .convert s t x) {d : TypeDesc} (hs : P.underlying s = some d) (ht : P.underlying t = some (.slice e)) (he : P.underlying e = some (.int .u8)) {y : Opd} (hy : cOpd x = some y) {bs : List UInt8}
    (hb : y.ev ρ = .str bs) : LOk P X st G w o a (.osl st.next 0 0 bs.length false) (st.new (.row 0 1 (byteCells bs) true)) := by
  have hr := opd_rep hE hy
  rw [hb] at hr
  have hv := rep_str hr
  have hsz : (⟨bs.toArray⟩ : ByteArray).size = bs.length := by simp [ByteArray.size]
  have hge := grownCap_ge w (⟨bs.toArray⟩ : ByteArray).size 0 e
  have hall : allOf 1 (byteCells bs) = true := List.all_eq_true.2 fun cs hcs => by
    obtain ⟨q, _, rfl⟩ := List.mem_map.1 hcs
    rfl
  have hcs : (Lib.bytesCells w e ⟨bs.toArray⟩).size = grownCap w (⟨bs.toArray⟩ : ByteArray).size 0 e := by
    simp only [Lib.bytesCells, Array.size_append, Array.size_map, Array.size_replicate]
    have : bs.toArray.size = (⟨bs.toArray⟩ : ByteArray).size := rfl
    omega
  obtain ⟨G', h1, h2, h3⟩ := new_row hI (es := byteCells bs) (sz := 1) (cap := grownCap w (⟨bs.toArray⟩ : ByteArray).size 0 e) (bytesWorld_below w e ⟨bs.toArray⟩) (by rw [Lib.bytesWorld_size]; omega) (Lib.bytesWorld_at_new w e ⟨bs.toArray⟩) hall (by simp [byteCells]; omega) (by rw [hcs]; omega) (fun q hq => by simp only [hcs]; omega)
    (fun j i cs p hj hi => by
      simp only [byteCells, List.getElem?_map] at hj
      obtain ⟨q, hq, rfl⟩ := Option.map_eq_some_iff.1 hj
      have hi0 : i = 0 := by
        have := (List.getElem?_eq_some_iff.1 hi).1
        simp at this
        exact this
      subst hi0
      simp at hi
      subst hi
      have hlt := (List.getElem?_eq_some_iff.1 hq).1
      have : (Lib.bytesCells w e ⟨bs.toArray⟩).getD (j * 1 + 0) undef = .int .u8 q.toNat := by
        rw [Array.getD_eq_getD_getElem?]
        simp only [Lib.bytesCells, Nat.mul_one, Nat.add_zero]
        rw [Array.getElem?_append_left (by simpa using hlt)]
        simp [hq]
      rw [this]
      exact .int _ _) (len := (⟨bs.toArray⟩ : ByteArray).size) (by simp [byteCells, hsz])
  refine ⟨.value (.slice (some ⟨w.heap.size, 0, none⟩) (⟨bs.toArray⟩ : ByteArray).size (grownCap w (⟨bs.toArray⟩ : ByteArray).size 0 e)), _, _, G', ?_, rfl, h1, h2, ?_⟩
  · simp only [execOp, ho, hv]
    rw [Sem.run_bind, Lib.run_convert_string_bytes w s t e _ hs ht he]
    rfl
  · rw [← hsz]
    exact h3

/-! ### copy -/
def cCopy (P : Program) (ts : List TypeId) (xs : List Operand) : Option PI :=
  match ts, xs with
  | t :: _, [s, x] => match P.underlying t, cOpd s, cOpd x with
    | some (.slice e), some s', some x' => match tyOf P e with
      | some (_, i) => some (.copy i.size s' x')
      | none => none
    | _, _, _ => none
  | _, _ => none
theorem run_copy {t e : TypeId} {ts : List TypeId} {d : TypeDesc} {i : TypeInfo} (ht : P.underlying t = some (.slice e)) (hT : tyOf P e = some (d, i)) {base : Option Addr} {dLen dCap : Nat} {xv : Value} {m : Nat} {us : Array Value} (hlen : (Builtin.lenOf xv).run P w = .ok m w) (hus : (Builtin.firstCells i.size (min m dLen) xv).run P w = .ok us w) {w' : World}
    (hst : (match base with | some a => storeCells a us.toList | none => pure ()).run P w = .ok () w') (ty : TypeId) :
    (Builtin.copy_ (t :: ts).toArray ty #[.slice base dLen dCap, xv]).run P w = .ok (.int .i64 ((min m dLen : Nat) : Int)) w' := by
  unfold Builtin.copy_
  simp only [List.getElem?_toArray, List.getElem?_cons_zero, List.getElem?_cons_succ, Sem.run_bind, run_underlying ht, Result.andThen_ok, run_sizeOf hT, hlen]
  have hm : Nat.min m dLen = min m dLen := rfl
  cases base with
  | none =>
    simp only [Sem.run_pure, Result.ok.injEq, true_and] at hst
    subst hst
    simp only [hm, hus, Sem.run_bind, Result.andThen_ok, Sem.run_pure, Sem.run_pure']
    rfl
  | some ad =>
    simp only [hm, hus, Sem.run_bind, Result.andThen_ok, Sem.run_pure, hst]
    rfl

theorem l_copy (hI : Inv X st G w) (hE : EnvRep G (OwnF X st G) w n ρ a) {o : Oper} {ts : Array TypeId} {xs : Array Operand} (ho : o.op = .call { callee := .builtin .copy, args := xs, argTypes := ts }) {pi : PI} (hc : cCopy P ts.toList xs.toList = some pi) {p : PV} {st' : St} (hq : loud st (Opd.ev ρ) pi = some (p, st')) : LOk P X st G w o a p st' := by
  unfold cCopy at hc
  split at hc
  · rename_i t tr s x hts hxs
    have exs : xs = #[s, x] := by cases xs; simp_all
    have ets : ts = (t :: tr).toArray := by cases ts; simp_all
    subst exs ets
    split at hc
    · rename_i e s' x' hU hs hx
      split at hc
      · rename_i d i hT
        injection hc with hc
        subst hc
        simp only [loud] at hq
        obtain ⟨src, hsrc, hq⟩ := Option.bind_eq_some_iff.1 hq
        split at hq
        · rename_i hok
          obtain ⟨hok, hpos⟩ := hok
          obtain ⟨has, hone⟩ := okEls_all hok
          have hrs := opd_rep hE hs
          have hrx := opd_rep hE hx
          have done : ∀ {u : Value} {w' : World} {G' : Gh}, (Builtin.copy_ (t :: tr).toArray o.type #[a.eval s, a.eval x]).run P w = .ok u w' → Inv X st' G' w' → Later X st G w st' G' w' → Rep G' (OwnF X st' G') w' u p → LOk P X st G w o a p st' := by
            intro u w' G' hrun h1 h2 h3
            refine ⟨.value u, u, w', G', ?_, rfl, h1, h2, h3⟩
            simp only [execOp, ho, resolve]
            simp [invoke, builtin, hrun]
          generalize hes : s'.ev ρ = q at hrs hq
          generalize hvs : a.eval s = v at hrs done
          obtain ⟨s1, s2⟩ := src_run (P := P) hI hrx hsrc has
          unfold copyTo at hq
          split at hq
          · injection hq with hq
            simp only [Prod.mk.injEq] at hq
            obtain ⟨rfl, rfl⟩ := hq
            have hv : v = .slice none 0 0 := by cases hrs; rfl
            subst hv
            obtain ⟨us, u1, u2, u3⟩ := s2 0 (Nat.zero_le _)
            have hrun := run_copy (w := w) (w' := w) (ts := tr) hU hT (base := none) (dLen := 0) (dCap := 0) s1 (by rw [Nat.min_zero]; exact u1 w (Below.refl _ _)) rfl o.type
            exact done hrun hI (Later.refl _ _ _ _) (by rw [Nat.min_zero]; exact .int _ _)
          · rename_i tk g off len full
            split at hq
            · rename_i g' sz' es hg
              split at hq
              · rename_i hb
                obtain ⟨rfl, rfl, hlen⟩ := hb
                injection hq with hq
                simp only [Prod.mk.injEq] at hq
                obtain ⟨rfl, rfl⟩ := hq
                obtain ⟨L, k1, k2, k3, k4, k5, k6⟩ := hI.toks tk _ hg
                cases hrs with
                | osl _ _ _ _ _ L0 cap ad h hcap hL hfull ha =>
                  rw [k1] at h
                  injection h with h
                  subst h
                  obtain ⟨us, u1, u2, u3⟩ := s2 (min src.length len) (Nat.min_le_left _ _)
                  by_cases hm0 : min src.length len = 0
                  · have hus : us = #[] := by
                      apply Array.eq_empty_of_size_eq_zero
                      rw [u2, hm0]; simp
                    subst hus
                    have hrun := run_copy (w := w) (w' := w) (ts := tr) hU hT (base := some ad) (dLen := len) (dCap := cap) s1 (u1 w (Below.refl _ _)) rfl o.type
                    have hes2 : es.take off ++ src.take (min src.length len) ++ es.drop (off + min src.length len) = es := by
                      rw [hm0]; simp
                    rw [hes2] at done ⊢
                    obtain ⟨h1, h2⟩ := inv_put hI hg rfl k1 (k' := .row g' i.size es true) rfl rfl (w' := w) (Chg.refl _ _) (hI.toks tk _ hg)
                    exact done hrun h1 h2 (.int _ _)
                  · have hlp : 0 < len := by
                      rcases Nat.eq_zero_or_pos len with h0 | h0
                      · subst h0; simp at hm0
                      · exact h0
                    have had := ha (by omega)
                    subst had
                    generalize hmm : min src.length len = m at *
                    have hmle : m ≤ src.length ∧ m ≤ len := by omega
                    have hul : us.toList.length = m * L.sz := by rw [Array.length_toList, u2, k2]
                    have hbd : L.off + off * L.sz + m * L.sz ≤ L.off + L.cap * L.sz := by
                      have : (off + m) * L.sz ≤ L.cap * L.sz := Nat.mul_le_mul_right _ (by omega)
                      rw [Nat.add_mul] at this
                      omega
                    have hat : allOf i.size (src.take m) = true := by
                      have := allOf_part has 0 m
                      simpa using this
                    have hcr : CellsRep G (OwnF X st G) w us (src.take m).flatten := flat_src hat (by rw [u2, List.length_take]; congr 1; omega) (fun j cs k c hj hjs hk => by
                      rw [List.getElem?_take] at hjs
                      split at hjs
                      · rename_i hjm; exact u3 j cs k c hjm hjs hk
                      · cases hjs)
                    have hone' : (src.take m).flatten.all PV.one = true := List.all_eq_true.2 fun q hq => by
                      obtain ⟨cs, h1, h2⟩ := List.mem_flatten.1 hq
                      exact (List.all_eq_true.1 hone) q (List.mem_flatten.2 ⟨cs, List.mem_of_mem_take h1, h2⟩)
                    have hex : ∀ j, j < us.toList.length → ∃ v, cellAt w L.blk (L.off + off * L.sz + j) = some v := fun j hj => (k4 _ (by omega) (by rw [← k2]; omega)).1
                    have hst := run_storeCells_cells (P := P) L.blk (L.off + off * L.sz) us.toList 0 w (fun j hj => by obtain ⟨u, hu⟩ := hex j hj; simp [cellAt] at hu; simp [hu])
                      (fun j hj => (k4 _ (by omega) (by rw [← k2]; omega)).2) (hcr.list.one hone')
                    have hrun := run_copy (w := w) (w' := w.setCells L.blk (L.off + off * L.sz) us.toList) (ts := tr) hU hT (base := some ⟨L.blk, L.off + off * L.sz, none⟩) (dLen := len) (dCap := cap) s1 (by rw [hmm]; exact u1 w (Below.refl _ _)) hst o.type
                    rw [hmm] at hrun
                    have hown : OwnF X st G L.blk := .inr ⟨tk, _, L, hg, rfl, k1, rfl⟩
                    have hch : Chg (fun b => b = L.blk) w (w.setCells L.blk (L.off + off * L.sz) us.toList) := setCells_chg rfl
                    have up : ∀ {v : Value} {p : PV}, Rep G (OwnF X st G) w v p → Rep G (OwnF X st G) (w.setCells L.blk (L.off + off * L.sz) us.toList) v p := fun h => h.mono (fun _ _ _ h => h) hch (fun i h => h ▸ hown) (fun _ h => .inl h)
                    have hlen2 : (es.take off ++ src.take m ++ es.drop (off + m)).length = es.length := by simp; omega
                    obtain ⟨h1, h2⟩ := inv_put hI hg rfl k1 (k' := .row g' i.size (es.take off ++ src.take m ++ es.drop (off + m)) true) rfl rfl (w' := w.setCells L.blk (L.off + off * L.sz) us.toList) hch
                      ⟨L, k1, k2, by rw [hlen2]; exact k3, room_setCells k4 hex, fun j cs hj => by
                        rw [List.append_assoc, List.getElem?_append] at hj
                        have hto : (es.take off).length = off := by simp; omega
                        rw [hto] at hj
                        split at hj
                        · rename_i hjo
                          rw [List.getElem?_take, if_pos hjo] at hj
                          refine ⟨(k5 j cs hj).1, cells_apart hown (k5 j cs hj).2 (.inl ?_)⟩
                          have hcl := (k5 j cs hj).1
                          have : (j + 1) * i.size ≤ off * i.size := Nat.mul_le_mul_right _ hjo
                          rw [Nat.add_mul] at this
                          rw [k2]
                          omega
                        · rename_i hjo
                          rw [List.getElem?_append] at hj
                          have htm : (src.take m).length = m := by simp; omega
                          rw [htm] at hj
                          split at hj
                          · rename_i hjm
                            have hcl : cs.length = i.size := allOf_spec hat hj
                            refine ⟨hcl, fun k c hk => ?_⟩
                            have hk2 : k < i.size := by rw [← hcl]; exact (List.getElem?_eq_some_iff.1 hk).1
                            rw [List.getElem?_take, if_pos hjm] at hj
                            have hlt : (j - off) * i.size + k < us.size := by rw [u2]; exact mul_lt_of hjm hk2
                            have hrep := u3 (j - off) cs k c hjm hj hk
                            rw [Array.getD_eq_getD_getElem?, Array.getElem?_eq_getElem hlt] at hrep
                            have hj3 : j * i.size = off * i.size + (j - off) * i.size := by rw [← Nat.add_mul]; congr 1; omega
                            refine ⟨us[(j - off) * i.size + k], setCells_in hex (by rw [k2]; omega) ?_, up hrep⟩
                            have hidx : L.off + j * i.size + k - (L.off + off * L.sz) = (j - off) * i.size + k := by rw [k2]; omega
                            rw [hidx]
                            simp [hlt]
                          · rename_i hjm
                            rw [List.getElem?_drop] at hj
                            rw [show off + m + (j - off - m) = j by omega] at hj
                            refine ⟨(k5 j cs hj).1, cells_apart hown (k5 j cs hj).2 (.inr ?_)⟩
                            have : (off + m) * i.size ≤ j * i.size := Nat.mul_le_mul_right _ (by omega)
                            rw [Nat.add_mul] at this
                            rw [hul, k2]
                            omega, by simp⟩
                    exact done hrun h1 h2 (.int _ _)
              · cases hq
            · cases hq
          · cases hq
        · cases hq
      · cases hc
    · cases hc
  · cases hc
end
end Go.AM

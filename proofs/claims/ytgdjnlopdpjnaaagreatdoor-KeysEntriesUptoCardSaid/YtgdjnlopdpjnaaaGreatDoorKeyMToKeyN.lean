/- keys: readers (skip, done, num, key, name). · keys: readers (open, key, name). -/
import Derived.Test.YtgdjnlopdpjnaaaGreatDoorKeyGToKeyK
import Derived.Test.YtgdjnlopdpjnaaaGreatDoorPutVToReadB
import Derived.Test.YtgdjnlopdpjnaaaGreatDoorAmZ
set_option linter.unusedVariables false
set_option linter.unusedSimpArgs false
namespace Go.Proofs.YtgdjnlopdpjnaaaGreatDoor
open Go Go.AM Go.RowKit
abbrev Rd := List UInt8 × Bool
def RdR (st : St) (t : Nat) (r : Rd) : Prop := t < st.next ∧ r.1.length ≤ 1073741824 ∧ ∃ p, st.get t = some (.var [p, .bool r.2]) ∧ BV p r.1
def Mut (st st' : St) (t : Nat) : Prop := st'.base = st.base ∧ st.next ≤ st'.next ∧ ∀ u, u < st.next → u ≠ t → st'.get u = st.get u
theorem Mut.refl (st : St) (t : Nat) : Mut st st t := ⟨rfl, Nat.le_refl _, fun _ _ _ => rfl⟩
theorem Mut.trans {st st1 st2 : St} {t : Nat} (h : Mut st st1 t) (k : Mut st1 st2 t) : Mut st st2 t :=
  ⟨k.1.trans h.1, Nat.le_trans h.2.1 k.2.1, fun u hu hn => (k.2.2 u (by have := h.2.1; omega) hn).trans (h.2.2 u hu hn)⟩
theorem Mut.put (st : St) (t : Nat) (k : Tok) : Mut st (st.put t k) t := ⟨rfl, Nat.le_refl _, fun u hu hn => St.get_put_old (Ne.symm hn)⟩
theorem Mut.new (st : St) (t : Nat) (k : Tok) : Mut st (st.new k) t := ⟨rfl, Nat.le_succ _, fun u hu hn => St.get_new_old hu⟩
theorem Mut.re {st st' : St} {t : Nat} (h : Mut ⟨st.next, st.next, st.toks⟩ st' t) : Mut st ⟨st.base, st'.next, st'.toks⟩ t := ⟨rfl, h.2.1, h.2.2⟩
theorem RdR.re {st : St} {t : Nat} {r : Rd} (h : RdR st t r) (b : Nat) : RdR ⟨b, st.next, st.toks⟩ t r := h
theorem RdR.keep {st st' : St} {t : Nat} {r : Rd} (h : RdR st t r) (hn : st.next ≤ st'.next) (hg : st'.get t = st.get t) : RdR st' t r := by
  obtain ⟨h1, hb, p, h2, h3⟩ := h
  exact ⟨by omega, hb, p, hg.trans h2, h3⟩
theorem RdR.apart {st st' : St} {t u : Nat} {r : Rd} (h : RdR st t r) (m : Mut st st' u) (hn : t ≠ u) : RdR st' t r := h.keep m.2.1 (m.2.2 t h.1 hn)
theorem storeAt_rd0 {st : St} {t : Nat} {p q b : PV} (hg : st.get t = some (.var [p, b])) (hq : q.cells = [q]) : storeAt st (.ptr t 0) q = some (st.put t (.var [q, b])) := by
  simp only [storeAt, hg, hq]
  rfl
theorem storeAt_rd1 {st : St} {t : Nat} {p b c : PV} (hg : st.get t = some (.var [p, b])) (hc : c.cells = [c]) : storeAt st (.ptr t 1) c = some (st.put t (.var [p, c])) := by
  simp only [storeAt, hg, hc]
  rfl
theorem bv_cells {p : PV} {s : List UInt8} (h : BV p s) : p.cells = [p] := by cases h <;> rfl
theorem bv_one {p : PV} {s : List UInt8} (h : BV p s) : PV.one p = true := by cases h <;> rfl
def Z31 (r : Rd) (n : Nat) (ok : Bool) : Rd × Bool := if r.2 = true ∨ ok = false ∨ r.1.length < n then ((r.1, true), false) else ((r.1.drop n, false), true)
theorem run_skip {st : St} {t : Nat} {r : Rd} (hr : RdR st t r) {n : Nat} (hn : n ≤ 140737488355328) {ok : Bool} : ∃ st', T.R (.raw Z2a [.ptr t 0, .int .i64 n, .bool ok] st (.bool (Z31 r n ok).2) st') ∧ RdR st' t (Z31 r n ok).1 ∧ Mut st st' t := by
  obtain ⟨b, bad⟩ := r
  obtain ⟨hlt, hbl, p, hg, hp⟩ := hr
  simp only at hbl hg hp
  have hbad : Z31 (b, true) n ok = ((b, true), false) := by simp [Z31]
  have hst1 := storeAt_rd1 (c := .bool true) hg rfl
  have hend : RdR (st.put t (.var [p, .bool true])) t (b, true) ∧ Mut st (st.put t (.var [p, .bool true])) t := ⟨⟨hlt, hbl, p, St.get_put, hp⟩, .put _ _ _⟩
  have key : ∃ v st', T.R (.raw Z2a [.ptr t 0, .int .i64 n, .bool ok] st v st') ∧ v = .bool (Z31 (b, bad) n ok).2 ∧ RdR st' t (Z31 (b, bad) n ok).1 ∧ Mut st st' t := by
    refine Z1f rfl rfl ?_
    cases bad with
    | true =>
      rw [hbad]
      repeat' first | ((with_reducible show V _ _ _ _ _ _); first | refine Z0k rfl rfl ⟨rfl, hend⟩ | refine V_O rfl ?_ | refine Z16 rfl rfl ?_) | ((with_reducible show VO _ _ _ _ _ _ _); first | refine Z0a rfl hg rfl ?_ | refine Z0b rfl rfl rfl rfl rfl hst1 ?_ | refine Z02 rfl ?_ | refine Z03 ?_ | refine Z1j rfl rfl ?_)
    | false =>
      cases ok with
      | false =>
        have h2 : Z31 (b, false) n false = ((b, true), false) := by simp [Z31]
        rw [h2]
        repeat' first | ((with_reducible show V _ _ _ _ _ _); first | refine Z0k rfl rfl ⟨rfl, hend⟩ | refine V_O rfl ?_ | refine Z16 rfl rfl ?_) | ((with_reducible show VO _ _ _ _ _ _ _); first | refine Z0a rfl hg rfl ?_ | refine Z0b rfl rfl rfl rfl rfl hst1 ?_ | refine Z02 rfl ?_ | refine Z03 ?_ | refine Z10 rfl ?_ | refine Z1j rfl rfl ?_)
      | true =>
        by_cases hnb : b.length < n
        · have h2 : Z31 (b, false) n true = ((b, true), false) := by simp [Z31, hnb]
          have hc := Z13 (p := (b.length : Int) < (n : Int)) (by omega)
          rw [h2]
          repeat' first | ((with_reducible show V _ _ _ _ _ _); first | refine Z0k rfl rfl ⟨rfl, hend⟩ | refine V_O rfl ?_ | refine Z16 rfl rfl ?_) | ((with_reducible show VO _ _ _ _ _ _ _); first | refine Z0a rfl hg rfl ?_ | refine Z0z rfl hp ?_ | refine Z0q hc rfl ?_ | refine Z0b rfl rfl rfl rfl rfl hst1 ?_ | refine Z02 rfl ?_ | refine Z03 ?_ | refine Z10 rfl ?_)
        · have h2 : Z31 (b, false) n true = ((b.drop n, false), true) := by simp [Z31, hnb]
          have hc := Z0n (p := (b.length : Int) < (n : Int)) (by omega)
          obtain ⟨q, s1, s2⟩ := hp.lo st.get (k := .i64) (m := (n : Int)) (by omega) (by omega)
          rw [Int.toNat_natCast] at s2
          have hst0 := storeAt_rd0 (q := q) hg (bv_cells s2)
          have ho : q.cells.all PV.one = true := by rw [(bv_cells s2)]; simp [bv_one s2]
          have hl1 : q.cells.length = 1 := by rw [(bv_cells s2)]; rfl
          have hend2 : RdR (st.put t (.var [q, .bool false])) t (b.drop n, false) ∧ Mut st (st.put t (.var [q, .bool false])) t := ⟨⟨hlt, by simp only [List.length_drop]; omega, q, St.get_put, s2⟩, .put _ _ _⟩
          rw [h2]
          repeat' first | ((with_reducible show V _ _ _ _ _ _); first | refine Z0k rfl rfl ⟨rfl, hend2⟩ | refine V_O rfl ?_ | refine Z1e rfl rfl ?_) | ((with_reducible show VO _ _ _ _ _ _ _); first | refine Z0a rfl hg rfl ?_ | refine Z0z rfl hp ?_ | refine Z0q hc rfl ?_ | refine Z3s q rfl rfl rfl rfl s1 ?_ | refine Z0b rfl rfl ho hl1 rfl hst0 ?_ | refine Z02 rfl ?_ | refine Z03 ?_ | refine Z10 rfl ?_)
  obtain ⟨v, st', h1, rfl, h2, h3⟩ := key
  exact ⟨st', h1, h2, h3⟩
theorem run_done {st : St} {t : Nat} {r : Rd} (hr : RdR st t r) : ∃ st', T.R (.raw Z38 [.ptr t 0] st (.bool (!r.2 && decide (r.1 = []))) st') ∧ Mut st st' t ∧ st'.get t = st.get t := by
  obtain ⟨b, bad⟩ := r
  obtain ⟨hlt, hbl, p, hg, hp⟩ := hr
  simp only at hbl hg hp
  have key : ∃ v st', T.R (.raw Z38 [.ptr t 0] st v st') ∧ v = .bool (!bad && decide (b = [])) ∧ Mut st st' t ∧ st'.get t = st.get t := by
    refine Z1f rfl rfl ?_
    cases bad with
    | true =>
      repeat' first | refine Z0k rfl rfl ⟨rfl, .refl _ _, rfl⟩ | refine V_O rfl ?_ | ((with_reducible show VO _ _ _ _ _ _ _); first | refine Z0a rfl hg rfl ?_ | refine Z02 rfl ?_ | refine Z03 ?_ | refine Z1j rfl rfl ?_)
    | false =>
      by_cases h0 : b = []
      · have hc := Z13 (p := (b.length : Int) = 0) (by rw [h0]; rfl)
        have he : (!false && decide (b = [])) = true := by simp [h0]
        rw [he]
        repeat' first | refine Z0k rfl rfl ⟨rfl, .refl _ _, rfl⟩ | refine V_O rfl ?_ | ((with_reducible show VO _ _ _ _ _ _ _); first | refine Z0a rfl hg rfl ?_ | refine Z0z rfl hp ?_ | refine Z0q hc rfl ?_ | refine Z02 rfl ?_ | refine Z03 ?_ | refine Z10 rfl ?_)
      · have hc := Z0n (p := (b.length : Int) = 0) (by have := List.length_pos_iff.2 h0; omega)
        have he : (!false && decide (b = [])) = false := by simp [h0]
        rw [he]
        repeat' first | refine Z0k rfl rfl ⟨rfl, .refl _ _, rfl⟩ | refine V_O rfl ?_ | ((with_reducible show VO _ _ _ _ _ _ _); first | refine Z0a rfl hg rfl ?_ | refine Z0z rfl hp ?_ | refine Z0q hc rfl ?_ | refine Z02 rfl ?_ | refine Z03 ?_ | refine Z10 rfl ?_)
  obtain ⟨v, st', h1, rfl, h2, h3⟩ := key
  exact ⟨st', h1, h2, h3⟩
def numR (r : Rd) (lo hi : Int) : Rd × Int := match decN 10 0 r.1 with
  | .ok u n => if r.2 = false ∧ (u : Int) ≤ hi ∧ lo ≤ (u : Int) then ((r.1.drop n, false), u) else ((r.1, true), 0)
  | _ => ((r.1, true), 0)
theorem run_num {st : St} {t : Nat} {r : Rd} (hr : RdR st t r) {lo hi : Int} (h0 : 0 ≤ hi) (h1 : hi ≤ 281474976710656) : ∃ st', T.R (.raw n_keys_reader_num [.ptr t 0, .int .i64 lo, .int .i64 hi] st (.int .i64 (numR r lo hi).2) st') ∧ RdR st' t (numR r lo hi).1 ∧ Mut st st' t := by
  obtain ⟨b, bad⟩ := r
  have hr0 := hr
  obtain ⟨hlt, hbl, p, hg, hp⟩ := hr
  simp only at hbl hg hp
  have hpp := hp.pl
  have htk := run_NTake hp
  have hsk := fun (n : Nat) (hn : n ≤ 140737488355328) (ok : Bool) => run_skip (st := ⟨st.next, st.next, st.toks⟩) (hr0.re _) hn (ok := ok)
  have key : ∃ v st', T.R (.raw n_keys_reader_num [.ptr t 0, .int .i64 lo, .int .i64 hi] st v st') ∧ v = .int .i64 (numR (b, bad) lo hi).2 ∧ RdR st' t (numR (b, bad) lo hi).1 ∧ Mut st st' t := by
    refine Z1f rfl rfl ?_
    have hfail : ∀ e : Int, ∃ st1, T.R (.raw Z2a [.ptr t 0, .int .i64 0, .bool false] ⟨st.next, st.next, st.toks⟩ (.bool false) st1) ∧ st1.base = st.next ∧ RdR ⟨st.base, st1.next, st1.toks⟩ t (b, true) ∧ Mut st ⟨st.base, st1.next, st1.toks⟩ t := fun _ => by
      obtain ⟨st1, k1, k2, k3⟩ := hsk 0 (by omega) false
      have : Z31 (b, bad) 0 false = ((b, true), false) := by simp [Z31]
      rw [this] at k1 k2
      exact ⟨st1, k1, k3.1, k2, k3.re⟩
    cases hd : decN 10 0 b with
    | ends =>
      rw [hd] at htk
      have he : numR (b, bad) lo hi = ((b, true), 0) := by simp [numR, hd]
      rw [he]
      obtain ⟨st1, k1, k2, k3⟩ := hfail 11
      repeat' first | ((with_reducible show V _ _ _ _ _ _); first | refine Z0k rfl rfl ⟨rfl, k3⟩ | refine V_O rfl ?_ | refine Z16 rfl rfl ?_) | ((with_reducible show VO _ _ _ _ _ _ _); first | refine Z0a rfl hg rfl ?_ | refine Z0u rfl rfl htk ?_ | refine Z0s k1 k2 rfl rfl ?_ | refine Z02 rfl ?_ | refine Z03 ?_ | refine Z1j rfl rfl ?_)
    | form =>
      rw [hd] at htk
      have he : numR (b, bad) lo hi = ((b, true), 0) := by simp [numR, hd]
      rw [he]
      obtain ⟨st1, k1, k2, k3⟩ := hfail 12
      repeat' first | ((with_reducible show V _ _ _ _ _ _); first | refine Z0k rfl rfl ⟨rfl, k3⟩ | refine V_O rfl ?_ | refine Z16 rfl rfl ?_) | ((with_reducible show VO _ _ _ _ _ _ _); first | refine Z0a rfl hg rfl ?_ | refine Z0u rfl rfl htk ?_ | refine Z0s k1 k2 rfl rfl ?_ | refine Z02 rfl ?_ | refine Z03 ?_ | refine Z1j rfl rfl ?_)
    | ok u n =>
      rw [hd] at htk
      have hnl := decN_le _ _ _ _ _ hd
      have hu := decN_u64 hd
      have ew : PV.int .u64 (IntKind.u64.wrap hi) = PV.int .u64 hi := Z3x (by rw [Z0x]; omega)
      by_cases hc1 : (u : Int) ≤ hi
      · have ew2 : PV.int .i64 (IntKind.i64.wrap (u : Int)) = PV.int .i64 (u : Int) := Z3x (by rw [Z0l]; omega)
        have d1 := Z13 (p := (u : Int) ≤ hi) hc1
        by_cases hc2 : lo ≤ (u : Int)
        · have d2 := Z13 (p := lo ≤ (u : Int)) hc2
          obtain ⟨st1, k1, k2, k3⟩ := hsk n (by omega) true
          cases bad with
          | true =>
            have h2 : Z31 (b, true) n true = ((b, true), false) := by simp [Z31]
            rw [h2] at k1 k2
            have he : numR (b, true) lo hi = ((b, true), 0) := by simp [numR, hd]
            rw [he]
            have hend : RdR ⟨st.base, st1.next, st1.toks⟩ t (b, true) ∧ Mut st ⟨st.base, st1.next, st1.toks⟩ t := ⟨k2, k3.re⟩
            repeat' first | ((with_reducible show V _ _ _ _ _ _); first | refine Z0k rfl rfl ⟨rfl, hend⟩ | refine V_O rfl ?_ | refine Z16 rfl rfl ?_) | ((with_reducible show VO _ _ _ _ _ _ _); first | refine Z0a rfl hg rfl ?_ | refine Z0u rfl rfl htk ?_ | refine Z0q ew rfl ?_ | refine Z0q d1 rfl ?_ | refine Z0q ew2 rfl ?_ | refine Z0q d2 rfl ?_ | refine Z0s k1 k3.1 rfl rfl ?_ | refine Z02 rfl ?_ | refine Z03 ?_ | refine Z10 rfl ?_)
          | false =>
            have h2 : Z31 (b, false) n true = ((b.drop n, false), true) := by
              unfold Z31
              rw [if_neg (by simp only [Bool.false_eq_true, false_or, reduceCtorEq]; omega)]
            rw [h2] at k1 k2
            have he : numR (b, false) lo hi = ((b.drop n, false), (u : Int)) := by simp [numR, hd, hc1, hc2]
            rw [he]
            have hend : RdR ⟨st.base, st1.next, st1.toks⟩ t (b.drop n, false) ∧ Mut st ⟨st.base, st1.next, st1.toks⟩ t := ⟨k2, k3.re⟩
            repeat' first | ((with_reducible show V _ _ _ _ _ _); first | refine Z0k rfl rfl ⟨rfl, hend⟩ | refine V_O rfl ?_ | refine Z1e rfl rfl ?_) | ((with_reducible show VO _ _ _ _ _ _ _); first | refine Z0a rfl hg rfl ?_ | refine Z0u rfl rfl htk ?_ | refine Z0q ew rfl ?_ | refine Z0q d1 rfl ?_ | refine Z0q ew2 rfl ?_ | refine Z0q d2 rfl ?_ | refine Z0s k1 k3.1 rfl rfl ?_ | refine Z02 rfl ?_ | refine Z03 ?_ | refine Z10 rfl ?_)
        · have d2 := Z0n (p := lo ≤ (u : Int)) hc2
          have he : numR (b, bad) lo hi = ((b, true), 0) := by simp [numR, hd, hc2]
          rw [he]
          obtain ⟨st1, k1, k2, k3⟩ := hsk n (by omega) false
          have h2 : Z31 (b, bad) n false = ((b, true), false) := by simp [Z31]
          rw [h2] at k1 k2
          have hend : RdR ⟨st.base, st1.next, st1.toks⟩ t (b, true) ∧ Mut st ⟨st.base, st1.next, st1.toks⟩ t := ⟨k2, k3.re⟩
          repeat' first | ((with_reducible show V _ _ _ _ _ _); first | refine Z0k rfl rfl ⟨rfl, hend⟩ | refine V_O rfl ?_ | refine Z16 rfl rfl ?_) | ((with_reducible show VO _ _ _ _ _ _ _); first | refine Z0a rfl hg rfl ?_ | refine Z0u rfl rfl htk ?_ | refine Z0q ew rfl ?_ | refine Z0q d1 rfl ?_ | refine Z0q ew2 rfl ?_ | refine Z0q d2 rfl ?_ | refine Z0s k1 k3.1 rfl rfl ?_ | refine Z02 rfl ?_ | refine Z03 ?_ | refine Z10 rfl ?_)
      · have d1 := Z0n (p := (u : Int) ≤ hi) hc1
        have he : numR (b, bad) lo hi = ((b, true), 0) := by simp [numR, hd, hc1]
        rw [he]
        obtain ⟨st1, k1, k2, k3⟩ := hsk n (by omega) false
        have h2 : Z31 (b, bad) n false = ((b, true), false) := by simp [Z31]
        rw [h2] at k1 k2
        have hend : RdR ⟨st.base, st1.next, st1.toks⟩ t (b, true) ∧ Mut st ⟨st.base, st1.next, st1.toks⟩ t := ⟨k2, k3.re⟩
        repeat' first | ((with_reducible show V _ _ _ _ _ _); first | refine Z0k rfl rfl ⟨rfl, hend⟩ | refine V_O rfl ?_ | refine Z16 rfl rfl ?_) | ((with_reducible show VO _ _ _ _ _ _ _); first | refine Z0a rfl hg rfl ?_ | refine Z0u rfl rfl htk ?_ | refine Z0q ew rfl ?_ | refine Z0q d1 rfl ?_ | refine Z0s k1 k3.1 rfl rfl ?_ | refine Z02 rfl ?_ | refine Z03 ?_ | refine Z10 rfl ?_ | refine Z1j rfl rfl ?_)
  obtain ⟨v, st', k1, rfl, k2, k3⟩ := key
  exact ⟨st', k1, k2, k3⟩
end Go.Proofs.YtgdjnlopdpjnaaaGreatDoor
set_option linter.unusedVariables false
set_option linter.unusedSimpArgs false
namespace Go.Proofs.YtgdjnlopdpjnaaaGreatDoor
open Go Go.AM Go.RowKit
def Raw1 (T : Tb) (S : St) (f : Nat) (args : List PV) (r : PV) (S' : St) : Prop := S'.base = S.base ∧ T.R (.raw f args ⟨S.next, S.next, S.toks⟩ r ⟨S.next, S'.next, S'.toks⟩)
theorem raw1_of {T : Tb} {S : St} {f : Nat} {args : List PV} {r : PV} {st1 : St} (h : T.R (.raw f args ⟨S.next, S.next, S.toks⟩ r st1)) (hb : st1.base = S.next) : Raw1 T S f args r ⟨S.base, st1.next, st1.toks⟩ := ⟨rfl, by
  obtain ⟨b, n, k⟩ := st1
  simp only at hb
  subst hb
  exact h⟩
section
variable {T : Tb} {Q : Post} {k : List Fr} {ρ : EC} {st S' : St} {l : List POp} {kill : List Nat}
theorem Z25 {d : Option Nat} {f : Opd} {xs : List Opd} {g : Nat} {caps vals : List PV} {r : PV} (hc : Raw1 T st g (vals ++ caps) r S') (hf : f.get ρ = some (.func g caps)) (hx : gets ρ xs = some vals) (h : VO T Q l kill k (ρ.sets d r) S') : VO T Q (⟨d, none, .call f xs⟩ :: l) kill k ρ st := by
  refine Z0s hc.2 rfl hf hx ?_
  have : (⟨st.base, S'.next, S'.toks⟩ : St) = S' := by rw [← hc.1]
  rw [this]
  exact h
end
theorem X_raw1 {T : Tb} {Q : Post} {C : Bx} {j : Nat} {k : List Fr} {l : List POp} {kill : List Nat} {ρ : EC} {b : Bool} {d : Option Nat} {f : Opd} {xs : List Opd} {g : Nat} {caps vals : List PV} {r : PV} {A B : St} (hx : Nat.beq j C.m = true) (hw : C.away ⟨d, none, .call f xs⟩ = true) (hf : f.get ρ = some (.func g caps)) (hxs : gets ρ xs = some vals) (hA : C.A = A) (hc : Raw1 T A g (vals ++ caps) r B) (hB : C.B = B) (h : VX T Q C (j + 1) l kill k (ρ.sets d r) true b) : VX T Q C j (⟨d, none, .call f xs⟩ :: l) kill k ρ false b :=
  X_rawAll hx hw hf hxs hA hc.2 rfl (by rw [hB, ← hc.1]) h
theorem X_nil1 {T : Tb} {Q : Post} {C : Bx} {j : Nat} {k : List Fr} {kill : List Nat} {ρ : EC} {q : Bool} {st S1 : St} (hS1 : S1 = st.new (.var C.cs)) (hS : C.at q = st) (hN : st.next = C.N) (hD : ∀ t ∈ C.D, ρ.get t = some (.ptr C.N 0)) (h : V T Q k .normal (.drop kill ρ) S1) : VX T Q C j [] kill k ρ q true := by
  subst hS1
  exact X_nil hS hN hD h
theorem V_stage {T : Tb} {Q : Post} {k : List Fr} {ρ : EC} {st : St} {x : EX} {l : List (Nat × PV)} (hv : V T Q k x (ecOf l) st) (h : Got ρ l) : V T Q k x ρ st := V_to l h hv
section
variable {T : Tb} {k : List Fr} {ρ : EC} {st : St}
theorem V_finRQN {pf : PF} {Q : PV → St → Prop} {r : PV} {x : EX} (ha : adv 200 k x = ([], .normal)) (hr : resG ρ st.get pf.results = some r) (hq : Q r st) : V T (EndsRQ pf Q) k x ρ st := V_end ha fun e he => ⟨.inl rfl, r, resG_eq he hr, hq⟩
end
section
variable {T : Tb} {Q : Post} {k : List Fr} {ρ : EC} {st S' : St} {l : List POp} {kill : List Nat}
theorem O_alloc1 {d : Option Nat} {cs : List PV} (hS : S' = st.new (.var cs)) (h : VO T Q l kill k (ρ.sets d (.ptr st.next 0)) S') : VO T Q (⟨d, none, .alloc cs⟩ :: l) kill k ρ st := by
  subst hS
  exact Z05 rfl h
end
theorem skip1 {S : St} {t : Nat} {r : Rd} (hr : RdR S t r) {n : Nat} (hn : n ≤ 140737488355328) (ok : Bool) : ∃ S', Raw1 T S Z2a [.ptr t 0, .int .i64 n, .bool ok] (.bool (Z31 r n ok).2) S' ∧ RdR S' t (Z31 r n ok).1 ∧ Mut S S' t := by
  obtain ⟨st1, h1, h2, h3⟩ := run_skip (st := ⟨S.next, S.next, S.toks⟩) (hr.re _) hn (ok := ok)
  exact ⟨_, raw1_of h1 h3.1, h2, h3.re⟩
theorem num1 {S : St} {t : Nat} {r : Rd} (hr : RdR S t r) {lo hi : Int} (h0 : 0 ≤ hi) (h1 : hi ≤ 281474976710656) : ∃ S', Raw1 T S n_keys_reader_num [.ptr t 0, .int .i64 lo, .int .i64 hi] (.int .i64 (numR r lo hi).2) S' ∧ RdR S' t (numR r lo hi).1 ∧ Mut S S' t := by
  obtain ⟨st1, h1, h2, h3⟩ := run_num (st := ⟨S.next, S.next, S.toks⟩) (hr.re _) h0 h1
  exact ⟨_, raw1_of h1 h3.1, h2, h3.re⟩
theorem done1 {S : St} {t : Nat} {r : Rd} (hr : RdR S t r) : ∃ S', Raw1 T S Z38 [.ptr t 0] (.bool (!r.2 && decide (r.1 = []))) S' ∧ RdR S' t r ∧ Mut S S' t := by
  obtain ⟨st1, h1, h2, h3⟩ := run_done (st := ⟨S.next, S.next, S.toks⟩) (hr.re _)
  exact ⟨_, raw1_of h1 h2.1, hr.keep h2.2.1 h3, h2.re⟩
def idxB (c : UInt8) : List UInt8 → Nat → Int
  | [], _ => -1
  | d :: r, i => if c = d then i else idxB c r (i + 1)
theorem idxB_mem (c : UInt8) : ∀ (s : List UInt8) (i : Nat), decide (idxB c s i ≥ 0) = decide (c ∈ s)
  | [], i => by simp [idxB]
  | d :: r, i => by
    unfold idxB
    have := idxB_mem c r (i + 1)
    by_cases h : c = d
    · simp [h]
    · rw [if_neg h, this]
      simp [h]
theorem idxB_loop {p : PV} {s : List UInt8} (hp : BV p s) (hb : s.length ≤ 140737488355328) (c : UInt8) : ∀ (rest pre : List UInt8), s = pre ++ rest →
    V T (PE fun x e st' => st' = emptySt ∧ ((x = .exit 0 ∧ idxB c rest pre.length = -1) ∨ (x = .ret ∧ e = ecOf [(4, .int .i64 (idxB c rest pre.length))]))) [.code (.loop Z3c)] .normal (ecOf [(0, p), (1, .int .u8 c.toNat), (7, .int .i64 s.length), (8, .int .i64 pre.length)]) emptySt := by
  intro rest
  induction rest with
  | nil =>
    intro pre hs
    have hlt : decide ((pre.length : Int) < s.length) = false := decide_eq_false (by subst hs; simp)
    refine Z08 ?_
    repeat' first | ((with_reducible show V _ _ _ _ _ _); first | refine Z2y hlt rfl rfl ?_ | refine V_out [] rfl trivial ⟨rfl, .inl ⟨rfl, rfl⟩⟩ | refine V_O rfl ?_) | refine Z02 rfl ?_ | refine Z03 ?_
  | cons d rest ih =>
    intro pre hs
    have hlt : decide ((pre.length : Int) < s.length) = true := decide_eq_true (by subst hs; simp; omega)
    have hat := hp.at (n := (pre.length : Int)) (b := d) (by omega) (by subst hs; simp)
    have hpl : pre.length < s.length := by subst hs; simp
    have hw : IntKind.i64.wrap ((pre.length : Int) + 1) = ((pre ++ [d]).length : Int) := by rw [Z0l]; simp; omega
    have hi := ih (pre ++ [d]) (by rw [hs]; simp)
    refine Z08 ?_
    rw [idxB]
    by_cases h : c = d
    · have hd := Z13 (p := (c.toNat : Int) = (d.toNat : Int)) (by rw [h])
      rw [if_pos h]
      repeat' first | ((with_reducible show V _ _ _ _ _ _); first | refine Z2d hlt rfl rfl ?_ | refine V_out [(4, .int .i64 pre.length)] rfl ⟨rfl, trivial⟩ ⟨rfl, .inr ⟨rfl, rfl⟩⟩ | refine V_O rfl ?_ | refine Z16 rfl rfl ?_) | ((with_reducible show VO _ _ _ _ _ _ _); first | refine Z2q rfl rfl hat ?_ | refine Z0q hd rfl ?_ | refine Z02 rfl ?_ | refine Z03 ?_)
    · have hd := Z0n (p := (c.toNat : Int) = (d.toNat : Int)) (fun e => h (UInt8.toNat_inj.1 (by omega)))
      rw [if_neg h]
      have e1 : (pre ++ [d]).length = pre.length + 1 := by simp
      rw [e1] at hi hw
      repeat' first | ((with_reducible show V _ _ _ _ _ _); first | refine Z2d hlt rfl rfl ?_ | refine V_re rfl hi ⟨rfl, rfl, rfl, some_int hw, trivial⟩ | refine V_O rfl ?_ | refine Z1e rfl rfl ?_) | ((with_reducible show VO _ _ _ _ _ _ _); first | refine Z2q rfl rfl hat ?_ | refine Z0q hd rfl ?_ | refine Z02 rfl ?_ | refine Z03 ?_)
theorem run_IndexB {p : PV} {s : List UInt8} (hp : BV p s) (hb : s.length ≤ 140737488355328) (c : UInt8) : T.R (.call n_slices_Index_byte_byte [p, .int .u8 c.toNat] (.int .i64 (idxB c s 0))) := by
  have hl := idxB_loop hp hb c s [] rfl
  have hpp := hp.pl
  refine Z0c rfl rfl ?_
  repeat' first | refine V_cutTo rfl hl ⟨rfl, rfl, rfl, rfl, trivial⟩ ?_ | refine V_O rfl ?_ | ((with_reducible show VO _ _ _ _ _ _ _); first | refine Z0z rfl hp ?_ | refine Z02 rfl ?_ | refine Z03 ?_)
  rintro x e' st' ⟨rfl, ⟨rfl, h⟩ | ⟨rfl, rfl⟩⟩
  · repeat' first | refine V_O rfl ?_ | refine Z1t rfl rfl ?_ | refine Z02 rfl ?_ | refine Z03 ?_
    exact congrArg _ (Eq.symm h)
  · repeat' first | refine Z1t rfl rfl ?_
    rfl
theorem run_ContainsB {p : PV} {s : List UInt8} (hp : BV p s) (hb : s.length ≤ 140737488355328) (c : UInt8) : T.R (.call n_slices_Contains_byte_byte [p, .int .u8 c.toNat] (.bool (decide (c ∈ s)))) := by
  have hi := run_IndexB hp hb c
  have hpp := hp.pl
  refine Z0c rfl rfl ?_
  repeat' first | refine V_O rfl ?_ | refine Z1t rfl rfl ?_ | ((with_reducible show VO _ _ _ _ _ _ _); first | refine Z0u rfl rfl hi ?_ | refine Z02 rfl ?_ | refine Z03 ?_)
  exact congrArg _ (idxB_mem c s 0)
def openR (k kinds : List UInt8) : Rd := match k with
  | [] => ([], true)
  | c :: b => if c ∈ kinds then (b, false) else ([], true)
theorem build_rd {p : PV} {s : List UInt8} (hp : BV p s) : ∀ (look : Nat → Option Tok) (e : EC) (i : Nat), e.get i = some p → Z0v look e (.build [.nilSl, .bool false] [(0, (1, .t i))]) = some (.agg [p, .bool false]) := fun look e i hi => by
  cases hp <;> (simp only [Z0v, Z3z, elsOf, Opd.get, hi]; rfl)
theorem open1 {S : St} {pk pv : PV} {k v kinds : List UInt8} (hk : BV pk k) (hv : BV pv v) (hkl : k.length ≤ 1073741824) (hks : kinds.length ≤ 1000) : ∃ t S', Raw1 T S n_keys_open [.agg [pk, pv], .sl (Z00 kinds) true] (.ptr t 0) S' ∧ S.next ≤ t ∧ RdR S' t (openR k kinds) ∧ S.next ≤ S'.next ∧ ∀ u, u < S.next → S'.get u = S.get u := by
  have hpk := hk.pl
  have hpv := hv.pl
  have hone1 := bv_one hk
  have hone2 := bv_one hv
  have hbk : BV (.sl (Z00 kinds) true) kinds := .sl _ _
  have hpb := hbk.pl
  let st : St := ⟨S.next, S.next, S.toks⟩
  have hg : (st.new (.var [pk, pv])).get st.next = some (.var [pk, pv]) := St.get_new
  have key : ∃ r st', T.R (.raw n_keys_open [.agg [pk, pv], .sl (Z00 kinds) true] st r st') ∧ ∃ t, r = .ptr t 0 ∧ st'.base = S.next ∧ S.next ≤ t ∧ RdR st' t (openR k kinds) ∧ S.next ≤ st'.next ∧ ∀ u, u < S.next → st'.get u = S.get u := by
    refine Z1f rfl rfl ?_
    have hend : ∀ (b : List UInt8) (q : PV) (bad : Bool), BV q b → b.length ≤ 1073741824 → ∃ t, PV.ptr (st.new (.var [pk, pv])).next 0 = .ptr t 0 ∧ ((st.new (.var [pk, pv])).new (.var [q, .bool bad])).base = S.next ∧ S.next ≤ t ∧ RdR ((st.new (.var [pk, pv])).new (.var [q, .bool bad])) t (b, bad) ∧ S.next ≤ ((st.new (.var [pk, pv])).new (.var [q, .bool bad])).next ∧ ∀ u, u < S.next → ((st.new (.var [pk, pv])).new (.var [q, .bool bad])).get u = S.get u := fun b q bad hq hbl =>
      ⟨_, rfl, rfl, by show S.next ≤ S.next + 1; omega, ⟨Nat.lt_succ_self _, hbl, q, St.get_new, hq⟩, by show S.next ≤ S.next + 1 + 1; omega, fun u hu => by rw [St.get_new_old (by show u < S.next + 1; omega), St.get_new_old (by show u < S.next; omega)]; rfl⟩
    cases k with
    | nil =>
      have hc := Z13 (p := (([] : List UInt8).length : Int) = 0) rfl
      repeat' first | ((with_reducible show V _ _ _ _ _ _); first | refine Z0k rfl rfl (hend [] .nilSl true .nil (by simp)) | refine V_O rfl ?_ | refine Z16 rfl rfl ?_) | ((with_reducible show VO _ _ _ _ _ _ _); first | refine Z0a rfl hg rfl ?_ | refine Z0z rfl hk ?_ | refine Z0q hc rfl ?_ | refine Z02 rfl ?_ | refine Z05 rfl ?_ | refine Z03 ?_ | refine Z1j rfl rfl ?_)
    | cons c b =>
      have hc := Z0n (p := ((c :: b).length : Int) = 0) (by simp; omega)
      have hat := hk.at (n := 0) (b := c) (by omega) rfl
      have hct := run_ContainsB hbk (by omega) c
      by_cases hm : c ∈ kinds
      · have h2 : openR (c :: b) kinds = (b, false) := by simp [openR, hm]
        have hm2 : decide (c ∈ kinds) = true := by simp [hm]
        rw [hm2] at hct
        obtain ⟨q, s1, s2⟩ := hk.lo (st.new (.var [pk, pv])).get (k := .i64) (m := 1) (by omega) (by simp; omega)
        have s3 : BV q b := s2
        have hb := build_rd s3
        rw [h2]
        repeat' first | ((with_reducible show V _ _ _ _ _ _); first | refine Z0k rfl rfl (hend b q false s3 (by simp at hkl; omega)) | refine V_O rfl ?_ | refine Z1e rfl rfl ?_) | ((with_reducible show VO _ _ _ _ _ _ _); first | refine Z0a rfl hg rfl ?_ | refine Z0z rfl hk ?_ | refine Z0q hc rfl ?_ | refine Z2q rfl rfl hat ?_ | refine Z0u rfl rfl hct ?_ | refine Z3s q rfl rfl rfl rfl s1 ?_ | refine Z02 (hb _ _ _ rfl) ?_ | refine Z02 rfl ?_ | refine Z05 rfl ?_ | refine Z03 ?_ | refine Z10 rfl ?_)
      · have h2 : openR (c :: b) kinds = ([], true) := by simp [openR, hm]
        have hm2 : decide (c ∈ kinds) = false := by simp [hm]
        rw [hm2] at hct
        rw [h2]
        repeat' first | ((with_reducible show V _ _ _ _ _ _); first | refine Z0k rfl rfl (hend [] .nilSl true .nil (by simp)) | refine V_O rfl ?_ | refine Z16 rfl rfl ?_) | ((with_reducible show VO _ _ _ _ _ _ _); first | refine Z0a rfl hg rfl ?_ | refine Z0z rfl hk ?_ | refine Z0q hc rfl ?_ | refine Z2q rfl rfl hat ?_ | refine Z0u rfl rfl hct ?_ | refine Z02 rfl ?_ | refine Z05 rfl ?_ | refine Z03 ?_ | refine Z10 rfl ?_)
  obtain ⟨r, st', h1, t, rfl, h2, h3, h4, h5, h6⟩ := key
  exact ⟨t, _, raw1_of h1 h2, h3, h4, h5, h6⟩
def zeroV : Val := .mk 0 0 [] []
def Z1z (r : Rd) (kind : Int) : Rd × Val := match takeR r.1 with
  | .ok v n => if r.2 = false ∧ v.kind = kind then ((r.1.drop n, false), v) else ((r.1, true), zeroV)
  | .err _ => ((r.1, true), zeroV)
def cellsOf (v : Val) : List PV := [.int .i64 v.kind, .int .i64 v.n, .str v.s, .nilSl]
theorem resG_cell {e : EC} {look : Nat → Option Tok} {t a n : Nat} {cs : List PV} (ha : e.get a = some (.ptr t 0)) (hg : look t = some (.var cs)) (hl : cs.length = n) : resG e look [.cell a n true] = some (.agg cs) := by
  have hld : loadAt look n true (.ptr t 0) = some (.agg cs) := by
    simp only [loadAt, behind, hg, Option.bind_some]
    rw [← hl]
    simp [slice?]
  simp [resG, resGs, resG1, ha, hld]
theorem rdKey_vc {r : Rd} (hb : r.1.length ≤ 1073741824) (kind : Int) : VC (Z1z r kind).2 (cellsOf (Z1z r kind).2) ∧ (Z1z r kind).2.l = [] ∧ (Z1z r kind).1.1.length ≤ r.1.length := by
  have hz : VC zeroV (cellsOf zeroV) ∧ zeroV.l = [] := ⟨.nil _ _ _ (by simp [I64]) (by simp [I64]) (by simp), rfl⟩
  unfold Z1z
  split
  · rename_i v n hv
    obtain ⟨h1, h2, k, m, s, rfl, h3, h4, h5⟩ := take_ok hv hb
    split
    · exact ⟨.nil _ _ _ h3 h4 (by omega), rfl, by simp⟩
    · exact ⟨hz.1, hz.2, Nat.le_refl _⟩
  · exact ⟨hz.1, hz.2, Nat.le_refl _⟩
set_option maxHeartbeats 2000000 in
theorem key1 {S : St} {t : Nat} {r : Rd} (hr : RdR S t r) {kind : Int} : ∃ S', Raw1 T S n_keys_reader_key [.ptr t 0, .int .i64 kind] (.agg (cellsOf (Z1z r kind).2)) S' ∧ RdR S' t (Z1z r kind).1 ∧ Mut S S' t := by
  obtain ⟨b, bad⟩ := r
  have hr0 := hr
  obtain ⟨hlt, hbl, p, hg, hp⟩ := hr
  simp only at hbl hg hp
  have hpp := hp.pl
  have htk := run_Take hp hbl
  obtain ⟨st, hst⟩ : ∃ st : St, st = ⟨S.next, S.next, S.toks⟩ := ⟨_, rfl⟩
  have hsn : st.next = S.next := by rw [hst]
  have hsg : ∀ u, st.get u = S.get u := fun u => by rw [hst]; rfl
  have hsb : st.base = S.next := by rw [hst]
  let z4 : List PV := [.int .i64 0, .int .i64 0, .str [], .nilSl]
  have key : ∃ v st', T.R (.raw n_keys_reader_key [.ptr t 0, .int .i64 kind] st v st') ∧ v = .agg (cellsOf (Z1z (b, bad) kind).2) ∧ st'.base = S.next ∧ RdR st' t (Z1z (b, bad) kind).1 ∧ Mut S ⟨S.base, st'.next, st'.toks⟩ t := by
    have stage : ∀ (v : Val) (n : Nat) (ok : Bool), n ≤ 140737488355328 → ∃ A B : St, storeAt ((st.new (.var z4)).new (.var z4)) (.ptr (st.next + 1) 0) (.agg (cellsOf v)) = some A ∧ A.get t = some (.var [p, .bool bad]) ∧ A.get (st.next + 1) = some (.var (cellsOf v)) ∧ Raw1 T A Z2a [.ptr t 0, .int .i64 n, .bool ok] (.bool (Z31 (b, bad) n ok).2) B ∧ B.get (st.next + 1) = some (.var (cellsOf v)) ∧
        (∀ ds : List PV, ds.length = 4 → ∃ D, storeAt B (.ptr st.next 0) (.agg ds) = some D ∧ D.get st.next = some (.var ds) ∧ D.base = S.next ∧ RdR D t (Z31 (b, bad) n ok).1 ∧ Mut S ⟨S.base, D.next, D.toks⟩ t) := fun v n ok hn => by
      let A0 : St := (st.new (.var z4)).new (.var z4)
      have hA0n : A0.next = S.next + 2 := by show st.next + 1 + 1 = _; omega
      have hA0g : ∀ u, u < S.next → A0.get u = S.get u := fun u hu => (St.get_new_old (by show u < st.next + 1; omega)).trans ((St.get_new_old (by omega)).trans (hsg u))
      have hA01 : A0.get (st.next + 1) = some (.var z4) := St.get_new
      have hA00 : A0.get st.next = some (.var z4) := (St.get_new_old (by show st.next < st.next + 1; omega)).trans St.get_new
      have hs : storeAt A0 (.ptr (st.next + 1) 0) (.agg (cellsOf v)) = some (A0.put (st.next + 1) (.var (cellsOf v))) := Z0i hA01 rfl
      have hAg : ∀ u, u ≠ st.next + 1 → (A0.put (st.next + 1) (.var (cellsOf v))).get u = A0.get u := fun u hu => St.get_put_old (Ne.symm hu)
      have hAt : (A0.put (st.next + 1) (.var (cellsOf v))).get t = some (.var [p, .bool bad]) := (hAg t (by omega)).trans ((hA0g t hlt).trans hg)
      have hAr : RdR (A0.put (st.next + 1) (.var (cellsOf v))) t (b, bad) := ⟨by show t < A0.next; omega, hbl, p, hAt, hp⟩
      obtain ⟨B, k1, k2, k3⟩ := skip1 hAr hn ok
      have hB0 : B.get st.next = some (.var z4) := (k3.2.2 _ (by show st.next < A0.next; omega) (by omega)).trans ((hAg _ (by omega)).trans hA00)
      have hB1 : B.get (st.next + 1) = some (.var (cellsOf v)) := (k3.2.2 _ (by show st.next + 1 < A0.next; omega) (by omega)).trans St.get_put
      refine ⟨_, B, hs, hAt, St.get_put, k1, hB1, fun ds hds => ⟨B.put st.next (.var ds), Z0i hB0 (by rw [hds]; rfl), St.get_put, ?_, ?_, ?_⟩⟩
      · show B.base = S.next
        rw [k3.1]
        exact hsb
      · exact k2.keep (Nat.le_refl _) (St.get_put_old (by omega))
      · refine ⟨rfl, ?_, fun u hu hn => ?_⟩
        · show S.next ≤ B.next
          have : A0.next ≤ B.next := k3.2.1
          omega
        · show (B.put st.next (.var ds)).get u = S.get u
          rw [St.get_put_old (by omega), k3.2.2 u (by show u < A0.next; omega) hn, hAg u (by omega), hA0g u hu]
    have hg' : ((st.new (.var z4))).get t = some (.var [p, .bool bad]) := (St.get_new_old (by omega)).trans ((hsg t).trans hg)
    refine Z1f rfl rfl ?_
    cases hd : takeR b with
    | err e =>
      rw [hd] at htk
      have he0 : e ≠ 0 := fun h => take_err0 b (by rw [hd, h])
      have hc := Z0n (p := e = 0) he0
      have hk : Z1z (b, bad) kind = ((b, true), zeroV) := by simp [Z1z, hd]
      have hsk : Z31 (b, bad) 0 false = ((b, true), false) := by simp [Z31]
      obtain ⟨A, B, k1, k2, k3, k4, k5, k6⟩ := stage zeroV 0 false (by omega)
      rw [hsk] at k4 k6
      obtain ⟨D, d1, d2, d3, d4, d5⟩ := k6 (cellsOf zeroV) rfl
      rw [hk]
      repeat' first | ((with_reducible show V _ _ _ _ _ _); first | refine Z0k rfl (resG_cell rfl d2 rfl) ⟨rfl, d3, d4, d5⟩ | refine V_O rfl ?_ | refine Z16 rfl rfl ?_) | ((with_reducible show VO _ _ _ _ _ _ _); first | refine Z0a rfl hg' rfl ?_ | refine Z0u rfl rfl htk ?_ | refine Z0b rfl rfl rfl rfl rfl k1 ?_ | refine Z0b rfl rfl rfl rfl rfl d1 ?_ | refine Z0q hc rfl ?_ | refine Z25 k4 rfl rfl ?_ | refine Z02 rfl ?_ | refine Z05 rfl ?_ | refine Z03 ?_ | refine Z1j rfl rfl ?_)
    | ok v n =>
      obtain ⟨hn1, hn2, k, m, s, rfl, hk64, hm64, hsl⟩ := take_ok hd hbl
      rw [hd] at htk
      by_cases hkk : k = kind
      · have hc := Z13 (p := k = kind) hkk
        obtain ⟨A, B, k1, k2, k3, k4, k5, k6⟩ := stage (.mk k m s []) n true (by omega)
        cases bad with
        | true =>
          have hk : Z1z (b, true) kind = ((b, true), zeroV) := by simp [Z1z, hd]
          have hsk : Z31 (b, true) n true = ((b, true), false) := by simp [Z31]
          rw [hsk] at k4 k6
          obtain ⟨D, d1, d2, d3, d4, d5⟩ := k6 (cellsOf zeroV) rfl
          rw [hk]
          repeat' first | ((with_reducible show V _ _ _ _ _ _); first | refine Z0k rfl (resG_cell rfl d2 rfl) ⟨rfl, d3, d4, d5⟩ | refine V_O rfl ?_ | refine Z16 rfl rfl ?_) | ((with_reducible show VO _ _ _ _ _ _ _); first | refine Z0a rfl hg' rfl ?_ | refine Z0a rfl k3 rfl ?_ | refine Z0u rfl rfl htk ?_ | refine Z0b rfl rfl rfl rfl rfl k1 ?_ | refine Z0b rfl rfl rfl rfl rfl d1 ?_ | refine Z0q hc rfl ?_ | refine Z25 k4 rfl rfl ?_ | refine Z02 rfl ?_ | refine Z05 rfl ?_ | refine Z03 ?_ | refine Z10 rfl ?_)
        | false =>
          have hk : Z1z (b, false) kind = ((b.drop n, false), .mk k m s []) := by simp [Z1z, hd, hkk, Val.kind]
          have hsk : Z31 (b, false) n true = ((b.drop n, false), true) := by
            unfold Z31
            rw [if_neg (by simp only [Bool.false_eq_true, false_or, reduceCtorEq]; omega)]
          rw [hsk] at k4 k6
          obtain ⟨D, d1, d2, d3, d4, d5⟩ := k6 (cellsOf (.mk k m s [])) rfl
          rw [hk]
          repeat' first | ((with_reducible show V _ _ _ _ _ _); first | refine Z0k rfl (resG_cell rfl d2 rfl) ⟨rfl, d3, d4, d5⟩ | refine V_O rfl ?_ | refine Z1e rfl rfl ?_) | ((with_reducible show VO _ _ _ _ _ _ _); first | refine Z0a rfl hg' rfl ?_ | refine Z0a rfl k3 rfl ?_ | refine Z1p rfl k5 rfl ?_ | refine Z0u rfl rfl htk ?_ | refine Z0b rfl rfl rfl rfl rfl k1 ?_ | refine Z0b rfl rfl rfl rfl rfl d1 ?_ | refine Z0q hc rfl ?_ | refine Z25 k4 rfl rfl ?_ | refine Z02 rfl ?_ | refine Z05 rfl ?_ | refine Z03 ?_ | refine Z10 rfl ?_)
      · have hc := Z0n (p := k = kind) hkk
        obtain ⟨A, B, k1, k2, k3, k4, k5, k6⟩ := stage (.mk k m s []) n false (by omega)
        have hk : Z1z (b, bad) kind = ((b, true), zeroV) := by simp [Z1z, hd, hkk, Val.kind]
        have hsk : Z31 (b, bad) n false = ((b, true), false) := by simp [Z31]
        rw [hsk] at k4 k6
        obtain ⟨D, d1, d2, d3, d4, d5⟩ := k6 (cellsOf zeroV) rfl
        rw [hk]
        repeat' first | ((with_reducible show V _ _ _ _ _ _); first | refine Z0k rfl (resG_cell rfl d2 rfl) ⟨rfl, d3, d4, d5⟩ | refine V_O rfl ?_ | refine Z16 rfl rfl ?_) | ((with_reducible show VO _ _ _ _ _ _ _); first | refine Z0a rfl hg' rfl ?_ | refine Z0a rfl k3 rfl ?_ | refine Z0u rfl rfl htk ?_ | refine Z0b rfl rfl rfl rfl rfl k1 ?_ | refine Z0b rfl rfl rfl rfl rfl d1 ?_ | refine Z0q hc rfl ?_ | refine Z25 k4 rfl rfl ?_ | refine Z02 rfl ?_ | refine Z05 rfl ?_ | refine Z03 ?_ | refine Z10 rfl ?_)
  obtain ⟨v, st', h1, rfl, h2, h3, h4⟩ := key
  subst hst
  exact ⟨_, raw1_of h1 h2, h3, h4⟩
def rdName (r : Rd) : Rd := if (Z1z r 2).1.2 = true then (Z1z r 2).1 else ((Z1z r 2).1.1, !nameB (Z1z r 2).2.s)
theorem name1 {S : St} {t : Nat} {r : Rd} (hr : RdR S t r) : ∃ S', Raw1 T S n_keys_reader_name [.ptr t 0] (.tuple []) S' ∧ RdR S' t (rdName r) ∧ Mut S S' t := by
  obtain ⟨B, k1, k2, k3⟩ := key1 (S := ⟨S.next, S.next, S.toks⟩) (hr.re _) (kind := 2)
  obtain ⟨hvc, hvl, hle⟩ := rdKey_vc hr.2.1 2
  have hsl : (Z1z r 2).2.s.length ≤ 140737488355328 := by
    generalize (Z1z r 2).2 = v at hvc hvl
    obtain ⟨k, n, s, l⟩ := v
    cases hvc with
    | nil _ _ _ h1 h2 h3 => exact h3
  obtain ⟨hlt, hbl, p, hg, hp⟩ := k2
  have hnm := run_Name hsl
  have key : ∃ v st', T.R (.raw n_keys_reader_name [.ptr t 0] ⟨S.next, S.next, S.toks⟩ v st') ∧ v = .tuple [] ∧ st'.base = S.next ∧ RdR st' t (rdName r) ∧ Mut S ⟨S.base, st'.next, st'.toks⟩ t := by
    generalize hk : Z1z r 2 = kr at *
    obtain ⟨⟨b, bad⟩, v⟩ := kr
    refine Z1f rfl rfl ?_
    cases bad with
    | true =>
      have hn : rdName r = (b, true) := by simp [rdName, hk]
      rw [hn]
      repeat' first | ((with_reducible show V _ _ _ _ _ _); first | refine V_finRQN rfl rfl ⟨rfl, k3.1, ⟨hlt, hbl, p, hg, hp⟩, rfl, k3.2.1, k3.2.2⟩ | refine V_O rfl ?_ | refine Z1e rfl rfl ?_) | ((with_reducible show VO _ _ _ _ _ _ _); first | refine Z0a rfl hg rfl ?_ | refine Z25 k1 rfl rfl ?_ | refine Z02 rfl ?_ | refine Z03 ?_)
    | false =>
      have hn : rdName r = (b, !nameB v.s) := by simp [rdName, hk]
      have hst := storeAt_rd1 (c := .bool (!nameB v.s)) hg rfl
      have hend : RdR (B.put t (.var [p, .bool (!nameB v.s)])) t (b, !nameB v.s) ∧ Mut S ⟨S.base, (B.put t (.var [p, .bool (!nameB v.s)])).next, (B.put t (.var [p, .bool (!nameB v.s)])).toks⟩ t :=
        ⟨⟨hlt, hbl, p, St.get_put, hp⟩, rfl, k3.2.1, fun u hu hn => (St.get_put_old (Ne.symm hn)).trans (k3.2.2 u hu hn)⟩
      rw [hn]
      repeat' first | ((with_reducible show V _ _ _ _ _ _); first | refine V_finRQN rfl rfl ⟨rfl, k3.1, hend⟩ | refine V_O rfl ?_ | refine Z16 rfl rfl ?_) | ((with_reducible show VO _ _ _ _ _ _ _); first | refine Z0a rfl hg rfl ?_ | refine Z25 k1 rfl rfl ?_ | refine Z0u rfl rfl hnm ?_ | refine Z0b rfl rfl rfl rfl rfl hst ?_ | refine Z02 rfl ?_ | refine Z03 ?_)
  obtain ⟨v, st', h1, rfl, h2, h3, h4⟩ := key
  exact ⟨_, raw1_of h1 h2, h3, h4⟩
end Go.Proofs.YtgdjnlopdpjnaaaGreatDoor

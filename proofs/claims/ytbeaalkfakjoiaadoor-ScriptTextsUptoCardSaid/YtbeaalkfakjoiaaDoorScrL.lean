/- result.Lines: its iterator walked. -/
import Derived.Test.YtbeaalkfakjoiaaDoorScrK
set_option linter.unusedVariables false
set_option linter.unusedSimpArgs false
namespace Go.Proofs.YtbeaalkfakjoiaaDoor
open Go Go.AM Go.RowKit Go.Shelf Go.RangeBox
attribute [local go_sem] Oper.semAt_some
def KpB (b : Nat) (A B : World) : Prop := B.heap[b]? = A.heap[b]?
def StB (b : Nat) (A B : World) : Prop := ∃ v, B = A.setCell ⟨b, 0, none⟩ v
set_option maxHeartbeats 4000000 in
set_option maxRecDepth 100000 in
theorem lines_seq (b : Nat) (t : List UInt8) (ht : t.length ≤ 140737488355328) (w : World) (hb : w.heap[b]? = some (.cells #[.string ⟨t.toArray⟩] 9 (0, 0))) (n : Nat) :
    SeqSteps Fence.wide n Tryd.prog 52 #[.pointer (some ⟨b, 0, none⟩)] encX (KpB b) (StB b) (fun xs => xs = numL 1 (linesB t)) (fun pre => ∃ rest, numL 1 (linesB t) = pre ++ rest) (fun pre x => ∃ rest, numL 1 (linesB t) = pre ++ x :: rest) Gl.ok w := by
  intro l J Jx W hW hJ hJx hWd hSt hStx hY h0
  refine callsIn_of_wp Tryd.func52 rfl trivial ?_ rfl
  simp only [Tryd.ntmps52, List.size_toArray, List.length_cons, List.length_nil, Nat.reduceAdd, Nat.reduceSub, Array.replicate_succ, Array.replicate_zero, List.push_toArray, List.append_toArray, List.nil_append, List.cons_append]
  have hbW : W.heap[b]? = some (.cells #[.string ⟨t.toArray⟩] 9 (0, 0)) := (hW.block b (Array.getElem?_eq_some_iff.1 hb).1).trans hb
  gi_wp2
  gi_loopw [3] (fun p wr => ∃ (pre : List (Int × List UInt8)) (s : List UInt8), p = .int .i64 ((pre.length : Int) + 1) ∧ numL 1 (linesB t) = pre ++ numL (pre.length + 1) (linesB s) ∧ s.length + pre.length ≤ t.length ∧ wr.heap[b]? = some (.cells #[.string ⟨s.toArray⟩] 9 (0, 0)) ∧ J pre wr)
    (fun p wr => t.length + 1 - (intOf p).toNat)
  case atStart =>
    exact ⟨[], t, rfl, rfl, Nat.le_refl _, hbW, h0⟩
  case round =>
    obtain ⟨pre, s, rfl, hx, hl, hbk, hJs⟩ := hrel
    have hc : wr.cell? ⟨b, 0, none⟩ = some (.string ⟨s.toArray⟩) := by rw [Lib.cell_of_heap hbk]; rfl
    have hz : wr.frozen? ⟨b, 0, none⟩ = false := Lib.frozen_of_heap hbk 0
    cases s with
    | nil =>
      gi_wp2
      go_end0
      exact ⟨⟨_, rfl⟩, .inl ⟨pre, by simp [hx, linesB, numL], hJs⟩⟩
    | cons c s =>
      have hs0 : (c :: s) ≠ [] := by simp
      obtain ⟨q1, q2, q3⟩ := cutQ_lines hs0
      have hlen : (c :: s).length ≤ 140737488355328 := by omega
      have hg := hWd pre wr hJs
      gi_wp2_with (refine ⟨trivial, (fun h => by simp [Fence.wide] at h), ?_⟩; refine (callsIn_wide.2 (cut_in hlen hg)).mono ?_; rintro e w' ⟨b', rfl, hbl⟩)
      have hJ1 : J pre w' := hJ pre wr w' none hJs (grown_of hbl) (fun r e => by cases e)
      obtain ⟨fn, tmps, assign, body, hy, hR⟩ := hY pre ((pre.length : Int) + 1, (cutQ (c :: s)).1) w' hJ1 ⟨numL (pre.length + 1 + 1) (linesB (cutQ (c :: s)).2), by rw [hx, q1]; rfl⟩
      unfold encX at hy
      dsimp only at hy
      gi_wp2
      rw [hy]
      gi_wp2
      refine ⟨(fun h => by simp [Fence.wide] at h), hR.mono ?_⟩
      rintro e W3 (⟨rfl, hJ3, hk3⟩ | ⟨rfl, hJx3⟩)
      · have hb3 : W3.heap[b]? = some (.cells #[.string ⟨(c :: s).toArray⟩] 9 (0, 0)) := by
          unfold KpB at hk3
          rw [hk3, hbl.block b (Array.getElem?_eq_some_iff.1 hbk).1]
          exact hbk
        have hc3 : W3.cell? ⟨b, 0, none⟩ = some (.string ⟨(c :: s).toArray⟩) := by rw [Lib.cell_of_heap hb3]; rfl
        have hz3 : W3.frozen? ⟨b, 0, none⟩ = false := Lib.frozen_of_heap hb3 0
        gi_wp2
        refine ⟨⟨pre ++ [((pre.length : Int) + 1, (cutQ (c :: s)).1)], (cutQ (c :: s)).2, by simp, by rw [hx, q1]; simp [numL], ?_, ?_, hSt _ _ _ hJ3 ⟨_, rfl⟩⟩, ?_⟩
        · simp only [List.length_append, List.length_cons, List.length_nil] at hl q2 ⊢
          omega
        · exact Lib.heap_setCell_same hb3 _
        · have hl2 : 0 + 1 ≤ t.length - pre.length := by
            simp only [List.length_cons] at hl
            omega
          simp only [intOf]
          omega
      · gi_wp2
        refine bodyPost_ret (results_none rfl _ _ _) rfl ?_
        exact ⟨⟨_, rfl⟩, .inr ⟨_, ⟨numL (pre.length + 1 + 1) (linesB (cutQ (c :: s)).2), by rw [hx, q1]; simp [numL]⟩, hJx3⟩⟩
end Go.Proofs.YtbeaalkfakjoiaaDoor

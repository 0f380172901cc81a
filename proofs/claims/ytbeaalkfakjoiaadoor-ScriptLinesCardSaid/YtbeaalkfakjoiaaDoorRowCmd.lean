/- A command that is handed to a row. -/
import Derived.Test.YtbeaalkfakjoiaaDoorScrC
import Derived.Test.YtbeaalkfakjoiaaDoorAmZ
set_option linter.unusedVariables false
set_option linter.unusedSimpArgs false
namespace Go.Proofs.YtbeaalkfakjoiaaDoor
open Go Go.AM Go.RowKit
theorem r64_of {n : Int} (h : IntKind.i64.min ≤ n ∧ n ≤ IntKind.i64.max) : R64 n := by
  unfold R64
  have h1 : IntKind.i64.min = -9223372036854775808 := rfl
  have h2 : IntKind.i64.max = 9223372036854775807 := rfl
  rw [h1, h2] at h
  exact h
theorem five {α : Type} {l : List α} (h : l.length = 5) : ∃ a b c d e, l = [a, b, c, d, e] := by
  match l, h with
  | [a, b, c, d, e], _ => exact ⟨a, b, c, d, e, rfl⟩
set_option maxRecDepth 100000 in
theorem cmd_arg {H : Type} {d : DataW H} {q : PV} (h : AV Tryd.prog 23 d q) : ∃ (k se : Int) (t : List UInt8) (to ke : Int), d = .agg [.lit (.int .i64 k), .lit (.int .i64 se), .lit (.string t), .lit (.int .i64 to), .lit (.int .i64 ke)] ∧ q = .agg (k5 k se t to ke) ∧ R64 se ∧ R64 to ∧ R64 ke := by
  have hagg : isAggT Tryd.prog 23 = true := by kernel_rfl
  obtain ⟨qs, rfl, hv⟩ := av_agg hagg h
  obtain ⟨ds, qss, rfl, rfl, hd, hq, hf⟩ := tv_struct Tryd.underlying23 hv
  obtain ⟨d0, d1, d2, d3, d4, rfl⟩ := five hd
  obtain ⟨q0, q1, q2, q3, q4, rfl⟩ := five hq
  obtain ⟨k, rfl, rfl, _⟩ := tv_int Tryd.underlying3 (hf 0 _ d0 q0 rfl rfl rfl)
  obtain ⟨se, rfl, rfl, h1⟩ := tv_int Tryd.underlying3 (hf 1 _ d1 q1 rfl rfl rfl)
  obtain ⟨t, rfl, rfl, _⟩ := tv_str Tryd.underlying9 (hf 2 _ d2 q2 rfl rfl rfl)
  obtain ⟨to, rfl, rfl, h2⟩ := tv_int Tryd.underlying3 (hf 3 _ d3 q3 rfl rfl rfl)
  obtain ⟨ke, rfl, rfl, h3⟩ := tv_int Tryd.underlying2 (hf 4 _ d4 q4 rfl rfl rfl)
  exact ⟨k, se, t, to, ke, rfl, rfl, r64_of h1, r64_of h2, r64_of h3⟩
end Go.Proofs.YtbeaalkfakjoiaaDoor

/- Numbers: an answer or none, told; without their signs, and signed again. -/
import Derived.Test.YtbeaalkfakjoiaaDoorT
set_option linter.unusedVariables false
set_option linter.unusedSimpArgs false
namespace Go.Proofs.YtbeaalkfakjoiaaDoor
open Go Go.AM Go.RowKit
def R64 (a : Int) : Prop := -9223372036854775808 ≤ a ∧ a ≤ 9223372036854775807
def ans (x : Int) : Int × Int := if -9223372036854775808 ≤ x ∧ x ≤ 9223372036854775807 then (x, 0) else (0, 7)
def two (x : Int × Int) : PV := .tuple [.int .i64 x.1, .int .i64 x.2]
theorem run_told (a : Int) (b : Bool) : T.R (.call n_num_told [.int .i64 a, .bool b] (two (if b = true then (a, 0) else (0, 7)))) := by
  refine call_V rfl rfl ?_
  repeat' first | refine V_O rfl ?_ | refine O_step rfl ?_ | refine O_nil' ?_ | refine V_cT rfl rfl ?_ | refine V_cF rfl rfl ?_ | refine V_cEq rfl rfl ?_ | refine V_cNe rfl rfl ?_ | refine V_cB rfl rfl (fun _ => ?_) (fun _ => ?_) | refine O_gT' rfl ?_ | refine O_gU' rfl ?_ | refine O_gF' rfl rfl ?_ | refine O_gEq rfl ?_ | refine O_gNe rfl ?_ | refine O_gS rfl (fun _ => ?_) (fun _ => ?_) | refine V_fA rfl rfl ?_ | refine V_fAN rfl rfl ?_ | refine V_D rfl ?_ | refine D_step rfl ?_ | refine D_nil' ?_ | refine D_gT' rfl ?_ | refine D_gU' rfl ?_ | refine D_gF' rfl rfl ?_ | refine D_gS rfl (fun _ => ?_) (fun _ => ?_)
  all_goals simp_all [two]
theorem two_in {x : Int} (h : R64 x) : two (ans x) = .tuple [.int .i64 x, .int .i64 0] := by unfold R64 at h; unfold ans two; rw [if_pos h]
theorem two_out {x : Int} (h : ¬ R64 x) : two (ans x) = .tuple [.int .i64 0, .int .i64 7] := by unfold R64 at h; unfold ans two; rw [if_neg h]
theorem run_bare (a : Int) (ha : R64 a) : T.R (.call n_rambleref01_bare [.int .i64 a] (.int .u64 a.natAbs)) := by
  refine call_V rfl rfl ?_
  repeat' first | refine V_O rfl ?_ | refine O_step rfl ?_ | refine O_nil' ?_ | refine V_cT rfl rfl ?_ | refine V_cF rfl rfl ?_ | refine V_cEq rfl rfl ?_ | refine V_cNe rfl rfl ?_ | refine V_cB rfl rfl (fun _ => ?_) (fun _ => ?_) | refine O_gT' rfl ?_ | refine O_gU' rfl ?_ | refine O_gF' rfl rfl ?_ | refine O_gEq rfl ?_ | refine O_gNe rfl ?_ | refine O_gS rfl (fun _ => ?_) (fun _ => ?_) | refine V_fA rfl rfl ?_ | refine V_fAN rfl rfl ?_ | refine V_D rfl ?_ | refine D_step rfl ?_ | refine D_nil' ?_ | refine D_gT' rfl ?_ | refine D_gU' rfl ?_ | refine D_gF' rfl rfl ?_ | refine D_gS rfl (fun _ => ?_) (fun _ => ?_)
  all_goals simp only [decide_eq_true_eq, decide_eq_false_iff_not, Bool.not_eq_eq_eq_not, Bool.not_true, Bool.not_false, wrap_u64] at *
  all_goals unfold R64 at ha
  all_goals congr 1; omega
theorem run_signed (neg : Bool) (u : Int) (hu : 0 ≤ u ∧ u < 18446744073709551616) : T.R (.call n_rambleref01_signed [.bool neg, .int .u64 u] (.int .i64 (IntKind.i64.wrap (if neg = true then -u else u)))) := by
  refine call_V rfl rfl ?_
  repeat' first | refine V_O rfl ?_ | refine O_step rfl ?_ | refine O_nil' ?_ | refine V_cT rfl rfl ?_ | refine V_cF rfl rfl ?_ | refine V_cEq rfl rfl ?_ | refine V_cNe rfl rfl ?_ | refine V_cB rfl rfl (fun _ => ?_) (fun _ => ?_) | refine O_gT' rfl ?_ | refine O_gU' rfl ?_ | refine O_gF' rfl rfl ?_ | refine O_gEq rfl ?_ | refine O_gNe rfl ?_ | refine O_gS rfl (fun _ => ?_) (fun _ => ?_) | refine V_fA rfl rfl ?_ | refine V_fAN rfl rfl ?_ | refine V_D rfl ?_ | refine D_step rfl ?_ | refine D_nil' ?_ | refine D_gT' rfl ?_ | refine D_gU' rfl ?_ | refine D_gF' rfl rfl ?_ | refine D_gS rfl (fun _ => ?_) (fun _ => ?_)
  all_goals simp_all [wrap_u64, wrap_i64]
  all_goals omega
end Go.Proofs.YtbeaalkfakjoiaaDoor

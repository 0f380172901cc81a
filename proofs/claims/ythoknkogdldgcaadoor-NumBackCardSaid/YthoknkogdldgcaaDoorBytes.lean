/- Bytes: a copy. -/
import Derived.Test.YthoknkogdldgcaaDoorT
set_option linter.unusedVariables false
set_option linter.unusedSimpArgs false
namespace Go.Proofs.YthoknkogdldgcaaDoor
open Go Go.AM Go.RowKit
theorem run_Clone {v : PV} {s : List UInt8} (hv : BV v s) (hl : s.length ≤ 140737488355328) : ∃ v' st', T.R (.raw n_slices_Clone_byte_byte [v] ⟨0, 0, []⟩ v' st') ∧ Acc 1 st' v' (byteCells s) := by
  cases hv with
  | nil =>
    refine ⟨.nilSl, ⟨0, 0, []⟩, raw_V rfl rfl ?_, .inl ⟨rfl, rfl, rfl⟩⟩
    repeat' first | refine V_finR rfl rfl ?_ | refine V_O rfl ?_ | refine O_step rfl ?_ | refine O_nil' ?_ | refine V_cT rfl rfl ?_ | refine V_cF rfl rfl ?_ | refine V_cEq rfl rfl ?_ | refine V_cNe rfl rfl ?_ | refine V_cB rfl rfl (fun _ => ?_) (fun _ => ?_) | refine O_gT' rfl ?_ | refine O_gU' rfl ?_ | refine O_gF' rfl rfl ?_ | refine O_gEq rfl ?_ | refine O_gNe rfl ?_ | refine O_gS rfl (fun _ => ?_) (fun _ => ?_) | refine V_fA rfl rfl ?_ | refine V_fAN rfl rfl ?_ | refine V_D rfl ?_ | refine D_step rfl ?_ | refine D_nil' ?_ | refine D_gT' rfl ?_ | refine D_gU' rfl ?_ | refine D_gF' rfl rfl ?_ | refine D_gS rfl (fun _ => ?_) (fun _ => ?_)
    rfl
  | sl s full =>
    by_cases h0 : s = []
    · subst h0
      refine ⟨.osl 0 0 0 0 false, ⟨0, 1, [(0, .row 0 1 [] true)]⟩, raw_V rfl rfl ?_, .inr ⟨0, rfl, rfl⟩⟩
      repeat' first | refine V_finR rfl rfl ?_ | refine O_stepL rfl ?_ | refine O_append rfl rfl rfl rfl (by decide) (by decide) rfl ?_ | refine V_O rfl ?_ | refine O_step rfl ?_ | refine O_nil' ?_ | refine V_cT rfl rfl ?_ | refine V_cF rfl rfl ?_ | refine V_cEq rfl rfl ?_ | refine V_cNe rfl rfl ?_ | refine V_cB rfl rfl (fun _ => ?_) (fun _ => ?_) | refine O_gT' rfl ?_ | refine O_gU' rfl ?_ | refine O_gF' rfl rfl ?_ | refine O_gEq rfl ?_ | refine O_gNe rfl ?_ | refine O_gS rfl (fun _ => ?_) (fun _ => ?_) | refine V_fA rfl rfl ?_ | refine V_fAN rfl rfl ?_ | refine V_D rfl ?_ | refine D_step rfl ?_ | refine D_nil' ?_ | refine D_gT' rfl ?_ | refine D_gU' rfl ?_ | refine D_gF' rfl rfl ?_ | refine D_gS rfl (fun _ => ?_) (fun _ => ?_)
      rfl
    · have hne : byteCells s ≠ [] := by simpa [byteCells] using h0
      refine ⟨.osl 0 1 0 (([] : List (List PV)).length + (byteCells s).length) false, ⟨0, 1, [(0, .row 1 1 (([] : List (List PV)) ++ byteCells s) true)]⟩, raw_V rfl rfl ?_, .inr ⟨1, by simp, by simp⟩⟩
      repeat' first | refine V_finR rfl rfl ?_ | refine O_stepL rfl ?_ | refine O_append rfl rfl rfl (okEls_bytes s) (by decide) (by decide) (appendTo_own (es := []) hne rfl (by simp [byteCells, roomLen]; omega)) ?_ | refine V_O rfl ?_ | refine O_step rfl ?_ | refine O_nil' ?_ | refine V_cT rfl rfl ?_ | refine V_cF rfl rfl ?_ | refine V_cEq rfl rfl ?_ | refine V_cNe rfl rfl ?_ | refine V_cB rfl rfl (fun _ => ?_) (fun _ => ?_) | refine O_gT' rfl ?_ | refine O_gU' rfl ?_ | refine O_gF' rfl rfl ?_ | refine O_gEq rfl ?_ | refine O_gNe rfl ?_ | refine O_gS rfl (fun _ => ?_) (fun _ => ?_) | refine V_fA rfl rfl ?_ | refine V_fAN rfl rfl ?_ | refine V_D rfl ?_ | refine D_step rfl ?_ | refine D_nil' ?_ | refine D_gT' rfl ?_ | refine D_gU' rfl ?_ | refine D_gF' rfl rfl ?_ | refine D_gS rfl (fun _ => ?_) (fun _ => ?_)
      rfl
end Go.Proofs.YthoknkogdldgcaaDoor

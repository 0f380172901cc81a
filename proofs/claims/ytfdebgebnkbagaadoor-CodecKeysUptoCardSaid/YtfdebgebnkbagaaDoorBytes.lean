/- Bytes: a copy, whether alike, whether a beginning. -/
import Derived.Test.YtfdebgebnkbagaaDoorT
set_option linter.unusedVariables false
set_option linter.unusedSimpArgs false
namespace Go.Proofs.YtfdebgebnkbagaaDoor
open Go Go.AM Go.RowKit

theorem run_Equal {v w : PV} {s t : List UInt8} (hv : BV v s) (hw : BV w t) : T.R (.call n_bytes_Equal [v, w] (.bool (decide (s = t)))) := by
  refine call_V rfl rfl ?_
  repeat' first
    | refine O_toStr rfl (by assumption) ?_
    | refine V_O rfl ?_
    | refine O_step rfl ?_
    | refine O_nil' ?_
    | refine V_cT rfl rfl ?_
    | refine V_cF rfl rfl ?_
    | refine V_cEq rfl rfl ?_
    | refine V_cNe rfl rfl ?_
    | refine V_cB rfl rfl (fun _ => ?_) (fun _ => ?_)
    | refine O_gT' rfl ?_
    | refine O_gU' rfl ?_
    | refine O_gF' rfl rfl ?_
    | refine O_gEq rfl ?_
    | refine O_gNe rfl ?_
    | refine O_gS rfl (fun _ => ?_) (fun _ => ?_)
    | refine V_fin rfl rfl (Pl.view (by (repeat' (first | exact Pl.int _ _ | exact Pl.bool _ | exact Pl.str _ | exact Pl.nilSl | exact pl_nil | refine pl_cons ?_ ?_ | refine Pl.tuple _ ?_ | refine Pl.agg _ ?_ | refine Pl.func _ _ ?_ | assumption | refine Pl.iptr _ _ ?_ | exact pll_nil | refine pll_cons ?_ ?_ | refine Pl.sl _ _ ?_)); first | done | fail)) ?_
    | refine V_finN rfl rfl (Pl.view (by (repeat' (first | exact Pl.int _ _ | exact Pl.bool _ | exact Pl.str _ | exact Pl.nilSl | exact pl_nil | refine pl_cons ?_ ?_ | refine Pl.tuple _ ?_ | refine Pl.agg _ ?_ | refine Pl.func _ _ ?_ | assumption | refine Pl.iptr _ _ ?_ | exact pll_nil | refine pll_cons ?_ ?_ | refine Pl.sl _ _ ?_)); first | done | fail)) ?_
    | refine V_D rfl ?_
    | refine D_step rfl ?_
    | refine D_nil' ?_
    | refine D_gT' rfl ?_
    | refine D_gU' rfl ?_
    | refine D_gF' rfl rfl ?_
    | refine D_gS rfl (fun _ => ?_) (fun _ => ?_)
  rfl

theorem run_HasPrefix {v w : PV} {s t : List UInt8} (hv : BV v s) (hw : BV w t) : T.R (.call n_bytes_HasPrefix [v, w] (.bool (decide (t <+: s)))) := by
  refine call_V rfl rfl ?_
  repeat' first
    | refine O_lenB rfl (by assumption) ?_
    | refine V_O rfl ?_
    | refine O_step rfl ?_
    | refine O_nil' ?_
    | refine V_cT rfl rfl ?_
    | refine V_cF rfl rfl ?_
    | refine V_cEq rfl rfl ?_
    | refine V_cNe rfl rfl ?_
    | refine V_cB rfl rfl (fun _ => ?_) (fun _ => ?_)
    | refine O_gT' rfl ?_
    | refine O_gU' rfl ?_
    | refine O_gF' rfl rfl ?_
    | refine O_gEq rfl ?_
    | refine O_gNe rfl ?_
    | refine O_gS rfl (fun _ => ?_) (fun _ => ?_)
    | refine V_fin rfl rfl (Pl.view (by (repeat' (first | exact Pl.int _ _ | exact Pl.bool _ | exact Pl.str _ | exact Pl.nilSl | exact pl_nil | refine pl_cons ?_ ?_ | refine Pl.tuple _ ?_ | refine Pl.agg _ ?_ | refine Pl.func _ _ ?_ | assumption | refine Pl.iptr _ _ ?_ | exact pll_nil | refine pll_cons ?_ ?_ | refine Pl.sl _ _ ?_)); first | done | fail)) ?_
    | refine V_finN rfl rfl (Pl.view (by (repeat' (first | exact Pl.int _ _ | exact Pl.bool _ | exact Pl.str _ | exact Pl.nilSl | exact pl_nil | refine pl_cons ?_ ?_ | refine Pl.tuple _ ?_ | refine Pl.agg _ ?_ | refine Pl.func _ _ ?_ | assumption | refine Pl.iptr _ _ ?_ | exact pll_nil | refine pll_cons ?_ ?_ | refine Pl.sl _ _ ?_)); first | done | fail)) ?_
    | refine V_D rfl ?_
    | refine D_step rfl ?_
    | refine D_nil' ?_
    | refine D_gT' rfl ?_
    | refine D_gU' rfl ?_
    | refine D_gF' rfl rfl ?_
    | refine D_gS rfl (fun _ => ?_) (fun _ => ?_)
  · rename_i h
    have hle : t.length ≤ s.length := by have := of_decide_eq_true h; omega
    obtain ⟨v', h1, h2⟩ := hv.hi emptySt.get (k := .i64) (m := (t.length : Int)) (by omega) (by omega)
    refine O_slice v' rfl rfl rfl rfl h1 ?_
    have hc := run_Equal h2 hw
    have hpl := h2.pl
    have hpl' := hw.pl
    repeat' first
      | refine O_callP rfl rfl (viewL_pl (by (repeat' (first | exact Pl.int _ _ | exact Pl.bool _ | exact Pl.str _ | exact Pl.nilSl | exact pl_nil | refine pl_cons ?_ ?_ | refine Pl.tuple _ ?_ | refine Pl.agg _ ?_ | refine Pl.func _ _ ?_ | assumption | refine Pl.iptr _ _ ?_ | exact pll_nil | refine pll_cons ?_ ?_ | refine Pl.sl _ _ ?_)); first | done | fail)) hc ?_
      | refine V_O rfl ?_
      | refine O_step rfl ?_
      | refine O_nil' ?_
      | refine V_cT rfl rfl ?_
      | refine V_cF rfl rfl ?_
      | refine V_cEq rfl rfl ?_
      | refine V_cNe rfl rfl ?_
      | refine V_cB rfl rfl (fun _ => ?_) (fun _ => ?_)
      | refine O_gT' rfl ?_
      | refine O_gU' rfl ?_
      | refine O_gF' rfl rfl ?_
      | refine O_gEq rfl ?_
      | refine O_gNe rfl ?_
      | refine O_gS rfl (fun _ => ?_) (fun _ => ?_)
      | refine V_fin rfl rfl (Pl.view (by (repeat' (first | exact Pl.int _ _ | exact Pl.bool _ | exact Pl.str _ | exact Pl.nilSl | exact pl_nil | refine pl_cons ?_ ?_ | refine Pl.tuple _ ?_ | refine Pl.agg _ ?_ | refine Pl.func _ _ ?_ | assumption | refine Pl.iptr _ _ ?_ | exact pll_nil | refine pll_cons ?_ ?_ | refine Pl.sl _ _ ?_)); first | done | fail)) ?_
      | refine V_finN rfl rfl (Pl.view (by (repeat' (first | exact Pl.int _ _ | exact Pl.bool _ | exact Pl.str _ | exact Pl.nilSl | exact pl_nil | refine pl_cons ?_ ?_ | refine Pl.tuple _ ?_ | refine Pl.agg _ ?_ | refine Pl.func _ _ ?_ | assumption | refine Pl.iptr _ _ ?_ | exact pll_nil | refine pll_cons ?_ ?_ | refine Pl.sl _ _ ?_)); first | done | fail)) ?_
      | refine V_D rfl ?_
      | refine D_step rfl ?_
      | refine D_nil' ?_
      | refine D_gT' rfl ?_
      | refine D_gU' rfl ?_
      | refine D_gF' rfl rfl ?_
      | refine D_gS rfl (fun _ => ?_) (fun _ => ?_)
    congr 1
    rw [decide_eq_decide, Int.toNat_natCast]
    exact ⟨fun h => by rw [← h]; exact List.take_prefix _ _, fun h => (List.prefix_iff_eq_take.1 h).symm⟩
  · rename_i h
    have hle : s.length < t.length := by simp at h; omega
    congr 1
    symm
    rw [decide_eq_false_iff_not]
    intro hp
    have := hp.length_le
    omega

theorem run_Clone {v : PV} {s : List UInt8} (hv : BV v s) (hl : s.length ≤ 140737488355328) : ∃ v' st', T.R (.raw n_slices_Clone_byte_byte [v] ⟨0, 0, []⟩ v' st') ∧ Acc 1 st' v' (byteCells s) := by
  cases hv with
  | nil =>
    refine ⟨.nilSl, ⟨0, 0, []⟩, raw_V rfl rfl ?_, .inl ⟨rfl, rfl, rfl⟩⟩
    repeat' first
      | refine V_finR rfl rfl ?_
      | refine V_O rfl ?_
      | refine O_step rfl ?_
      | refine O_nil' ?_
      | refine V_cT rfl rfl ?_
      | refine V_cF rfl rfl ?_
      | refine V_cEq rfl rfl ?_
      | refine V_cNe rfl rfl ?_
      | refine V_cB rfl rfl (fun _ => ?_) (fun _ => ?_)
      | refine O_gT' rfl ?_
      | refine O_gU' rfl ?_
      | refine O_gF' rfl rfl ?_
      | refine O_gEq rfl ?_
      | refine O_gNe rfl ?_
      | refine O_gS rfl (fun _ => ?_) (fun _ => ?_)
      | refine V_fin rfl rfl (Pl.view (by (repeat' (first | exact Pl.int _ _ | exact Pl.bool _ | exact Pl.str _ | exact Pl.nilSl | exact pl_nil | refine pl_cons ?_ ?_ | refine Pl.tuple _ ?_ | refine Pl.agg _ ?_ | refine Pl.func _ _ ?_ | assumption | refine Pl.iptr _ _ ?_ | exact pll_nil | refine pll_cons ?_ ?_ | refine Pl.sl _ _ ?_)); first | done | fail)) ?_
      | refine V_finN rfl rfl (Pl.view (by (repeat' (first | exact Pl.int _ _ | exact Pl.bool _ | exact Pl.str _ | exact Pl.nilSl | exact pl_nil | refine pl_cons ?_ ?_ | refine Pl.tuple _ ?_ | refine Pl.agg _ ?_ | refine Pl.func _ _ ?_ | assumption | refine Pl.iptr _ _ ?_ | exact pll_nil | refine pll_cons ?_ ?_ | refine Pl.sl _ _ ?_)); first | done | fail)) ?_
      | refine V_D rfl ?_
      | refine D_step rfl ?_
      | refine D_nil' ?_
      | refine D_gT' rfl ?_
      | refine D_gU' rfl ?_
      | refine D_gF' rfl rfl ?_
      | refine D_gS rfl (fun _ => ?_) (fun _ => ?_)
    rfl
  | sl s full =>
    by_cases h0 : s = []
    · subst h0
      refine ⟨.osl 0 0 0 0 false, ⟨0, 1, [(0, .row 0 1 [] true)]⟩, raw_V rfl rfl ?_, .inr ⟨0, rfl, rfl⟩⟩
      repeat' first
        | refine V_finR rfl rfl ?_
        | refine O_stepL rfl ?_
        | refine O_append rfl rfl rfl rfl (by decide) (by decide) rfl ?_
        | refine V_O rfl ?_
        | refine O_step rfl ?_
        | refine O_nil' ?_
        | refine V_cT rfl rfl ?_
        | refine V_cF rfl rfl ?_
        | refine V_cEq rfl rfl ?_
        | refine V_cNe rfl rfl ?_
        | refine V_cB rfl rfl (fun _ => ?_) (fun _ => ?_)
        | refine O_gT' rfl ?_
        | refine O_gU' rfl ?_
        | refine O_gF' rfl rfl ?_
        | refine O_gEq rfl ?_
        | refine O_gNe rfl ?_
        | refine O_gS rfl (fun _ => ?_) (fun _ => ?_)
        | refine V_fin rfl rfl (Pl.view (by (repeat' (first | exact Pl.int _ _ | exact Pl.bool _ | exact Pl.str _ | exact Pl.nilSl | exact pl_nil | refine pl_cons ?_ ?_ | refine Pl.tuple _ ?_ | refine Pl.agg _ ?_ | refine Pl.func _ _ ?_ | assumption | refine Pl.iptr _ _ ?_ | exact pll_nil | refine pll_cons ?_ ?_ | refine Pl.sl _ _ ?_)); first | done | fail)) ?_
        | refine V_finN rfl rfl (Pl.view (by (repeat' (first | exact Pl.int _ _ | exact Pl.bool _ | exact Pl.str _ | exact Pl.nilSl | exact pl_nil | refine pl_cons ?_ ?_ | refine Pl.tuple _ ?_ | refine Pl.agg _ ?_ | refine Pl.func _ _ ?_ | assumption | refine Pl.iptr _ _ ?_ | exact pll_nil | refine pll_cons ?_ ?_ | refine Pl.sl _ _ ?_)); first | done | fail)) ?_
        | refine V_D rfl ?_
        | refine D_step rfl ?_
        | refine D_nil' ?_
        | refine D_gT' rfl ?_
        | refine D_gU' rfl ?_
        | refine D_gF' rfl rfl ?_
        | refine D_gS rfl (fun _ => ?_) (fun _ => ?_)
      rfl
    · have hne : byteCells s ≠ [] := by simpa [byteCells] using h0
      refine ⟨.osl 0 1 0 (([] : List (List PV)).length + (byteCells s).length) false, ⟨0, 1, [(0, .row 1 1 (([] : List (List PV)) ++ byteCells s) true)]⟩, raw_V rfl rfl ?_, .inr ⟨1, by simp, by simp⟩⟩
      repeat' first
        | refine V_finR rfl rfl ?_
        | refine O_stepL rfl ?_
        | refine O_append rfl rfl rfl (okEls_bytes s) (by decide) (by decide) (appendTo_own (es := []) hne rfl (by simp [byteCells, roomLen]; omega)) ?_
        | refine V_O rfl ?_
        | refine O_step rfl ?_
        | refine O_nil' ?_
        | refine V_cT rfl rfl ?_
        | refine V_cF rfl rfl ?_
        | refine V_cEq rfl rfl ?_
        | refine V_cNe rfl rfl ?_
        | refine V_cB rfl rfl (fun _ => ?_) (fun _ => ?_)
        | refine O_gT' rfl ?_
        | refine O_gU' rfl ?_
        | refine O_gF' rfl rfl ?_
        | refine O_gEq rfl ?_
        | refine O_gNe rfl ?_
        | refine O_gS rfl (fun _ => ?_) (fun _ => ?_)
        | refine V_fin rfl rfl (Pl.view (by (repeat' (first | exact Pl.int _ _ | exact Pl.bool _ | exact Pl.str _ | exact Pl.nilSl | exact pl_nil | refine pl_cons ?_ ?_ | refine Pl.tuple _ ?_ | refine Pl.agg _ ?_ | refine Pl.func _ _ ?_ | assumption | refine Pl.iptr _ _ ?_ | exact pll_nil | refine pll_cons ?_ ?_ | refine Pl.sl _ _ ?_)); first | done | fail)) ?_
        | refine V_finN rfl rfl (Pl.view (by (repeat' (first | exact Pl.int _ _ | exact Pl.bool _ | exact Pl.str _ | exact Pl.nilSl | exact pl_nil | refine pl_cons ?_ ?_ | refine Pl.tuple _ ?_ | refine Pl.agg _ ?_ | refine Pl.func _ _ ?_ | assumption | refine Pl.iptr _ _ ?_ | exact pll_nil | refine pll_cons ?_ ?_ | refine Pl.sl _ _ ?_)); first | done | fail)) ?_
        | refine V_D rfl ?_
        | refine D_step rfl ?_
        | refine D_nil' ?_
        | refine D_gT' rfl ?_
        | refine D_gU' rfl ?_
        | refine D_gF' rfl rfl ?_
        | refine D_gS rfl (fun _ => ?_) (fun _ => ?_)
      rfl

end Go.Proofs.YtfdebgebnkbagaaDoor


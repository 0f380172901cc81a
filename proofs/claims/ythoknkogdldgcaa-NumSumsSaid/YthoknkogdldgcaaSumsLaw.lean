/- The document's sum, all of it; the law NumSums over plain values. -/
import Derived.Test.YthoknkogdldgcaaRSumL
set_option linter.unusedVariables false
set_option linter.unusedSimpArgs false
namespace Go.Proofs.Ythoknkogdldgcaa
open Go Go.AM Go.RowKit

theorem sum_split : ∀ l : List Int, (l.filter fun n => decide (n < 0)).sum + (l.filter fun n => !decide (n < 0)).sum = l.sum
  | [] => rfl
  | n :: l => by
    have := sum_split l
    by_cases h : n < 0
    · simp [List.filter_cons, h]; omega
    · simp [List.filter_cons, h]; omega
theorem run_rSum {v : PV} {l : List Int} (hv : LV ic v l) (hr : ∀ n ∈ l, R64 n) (hl : l.length ≤ 17592186044416) : T.R (.call n_rambleref01_Sum [v] (two (ans l.sum))) := by
  refine call_V rfl rfl ?_
  repeat' first
    | refine O_lenL rfl hv ?_
    | refine V_O rfl ?_
    | refine O_step rfl ?_
    | refine O_nil' ?_
    | refine V_cT rfl rfl ?_
    | refine V_cF rfl rfl ?_
    | refine V_cEq rfl rfl ?_
    | refine V_cNe rfl rfl ?_
    | refine V_cB rfl rfl (fun _ => ?_) (fun _ => ?_)
    | refine O_gT' rfl ?_
    | refine O_gU' rfl ?_
    | refine O_gF' rfl rfl ?_
    | refine O_gEq rfl ?_
    | refine O_gNe rfl ?_
    | refine O_gS rfl (fun _ => ?_) (fun _ => ?_)
    | refine V_fin rfl rfl (Pl.view (by (repeat' (first | exact Pl.int _ _ | exact Pl.bool _ | exact Pl.str _ | exact Pl.nilSl | exact pl_nil | refine pl_cons ?_ ?_ | refine Pl.tuple _ ?_ | refine Pl.agg _ ?_ | assumption)); first | done | fail)) ?_
    | refine V_finN rfl rfl (Pl.view (by (repeat' (first | exact Pl.int _ _ | exact Pl.bool _ | exact Pl.str _ | exact Pl.nilSl | exact pl_nil | refine pl_cons ?_ ?_ | refine Pl.tuple _ ?_ | refine Pl.agg _ ?_ | assumption)); first | done | fail)) ?_
    | refine V_D rfl ?_
    | refine D_step rfl ?_
    | refine D_nil' ?_
    | refine D_gT' rfl ?_
    | refine D_gU' rfl ?_
    | refine D_gF' rfl rfl ?_
    | refine D_gS rfl (fun _ => ?_) (fun _ => ?_)
  refine V_cutA rfl (rsplit_loop hv l [] .nilSl .nilSl _ emptySt rfl hl rfl rfl rfl rfl (.inl ⟨rfl, rfl⟩) (.inl ⟨rfl, rfl⟩) (fun u h => by cases h)) ?_
  rintro x e' st' ⟨rfl, vl, vh, rfl, hA, hB⟩
  repeat' first
    | refine V_O rfl ?_
    | refine O_step rfl ?_
    | refine O_nil' ?_
    | refine V_cT rfl rfl ?_
    | refine V_cF rfl rfl ?_
    | refine V_cEq rfl rfl ?_
    | refine V_cNe rfl rfl ?_
    | refine V_cB rfl rfl (fun _ => ?_) (fun _ => ?_)
    | refine O_gT' rfl ?_
    | refine O_gU' rfl ?_
    | refine O_gF' rfl rfl ?_
    | refine O_gEq rfl ?_
    | refine O_gNe rfl ?_
    | refine O_gS rfl (fun _ => ?_) (fun _ => ?_)
    | refine V_fin rfl rfl (Pl.view (by (repeat' (first | exact Pl.int _ _ | exact Pl.bool _ | exact Pl.str _ | exact Pl.nilSl | exact pl_nil | refine pl_cons ?_ ?_ | refine Pl.tuple _ ?_ | refine Pl.agg _ ?_ | assumption)); first | done | fail)) ?_
    | refine V_finN rfl rfl (Pl.view (by (repeat' (first | exact Pl.int _ _ | exact Pl.bool _ | exact Pl.str _ | exact Pl.nilSl | exact pl_nil | refine pl_cons ?_ ?_ | refine Pl.tuple _ ?_ | refine Pl.agg _ ?_ | assumption)); first | done | fail)) ?_
    | refine V_D rfl ?_
    | refine D_step rfl ?_
    | refine D_nil' ?_
    | refine D_gT' rfl ?_
    | refine D_gU' rfl ?_
    | refine D_gF' rfl rfl ?_
    | refine D_gS rfl (fun _ => ?_) (fun _ => ?_)
  refine V_cutA rfl (rsum_loop _ _ _ 0 vl vh _ st' rfl (fun n hn => ?_) (fun n hn => ?_) (by unfold R64; omega) rfl rfl rfl hA.win hB.win) ?_
  · simp at hn; exact ⟨hr n hn.1, hn.2⟩
  · simp at hn; exact ⟨hr n hn.1, hn.2⟩
  rw [Int.zero_add, sum_split]
  rintro x e' st'' ⟨rfl, ⟨rfl, hR, rfl⟩ | ⟨rfl, hR, rfl⟩⟩
  · rw [two_in hR]
    repeat' first
      | refine V_O rfl ?_
      | refine O_step rfl ?_
      | refine O_nil' ?_
      | refine V_cT rfl rfl ?_
      | refine V_cF rfl rfl ?_
      | refine V_cEq rfl rfl ?_
      | refine V_cNe rfl rfl ?_
      | refine V_cB rfl rfl (fun _ => ?_) (fun _ => ?_)
      | refine O_gT' rfl ?_
      | refine O_gU' rfl ?_
      | refine O_gF' rfl rfl ?_
      | refine O_gEq rfl ?_
      | refine O_gNe rfl ?_
      | refine O_gS rfl (fun _ => ?_) (fun _ => ?_)
      | refine V_fin rfl rfl (Pl.view (by (repeat' (first | exact Pl.int _ _ | exact Pl.bool _ | exact Pl.str _ | exact Pl.nilSl | exact pl_nil | refine pl_cons ?_ ?_ | refine Pl.tuple _ ?_ | refine Pl.agg _ ?_ | assumption)); first | done | fail)) ?_
      | refine V_finN rfl rfl (Pl.view (by (repeat' (first | exact Pl.int _ _ | exact Pl.bool _ | exact Pl.str _ | exact Pl.nilSl | exact pl_nil | refine pl_cons ?_ ?_ | refine Pl.tuple _ ?_ | refine Pl.agg _ ?_ | assumption)); first | done | fail)) ?_
      | refine V_D rfl ?_
      | refine D_step rfl ?_
      | refine D_nil' ?_
      | refine D_gT' rfl ?_
      | refine D_gU' rfl ?_
      | refine D_gF' rfl rfl ?_
      | refine D_gS rfl (fun _ => ?_) (fun _ => ?_)
    rfl
  · rw [two_out hR]
    repeat' first
      | refine V_O rfl ?_
      | refine O_step rfl ?_
      | refine O_nil' ?_
      | refine V_cT rfl rfl ?_
      | refine V_cF rfl rfl ?_
      | refine V_cEq rfl rfl ?_
      | refine V_cNe rfl rfl ?_
      | refine V_cB rfl rfl (fun _ => ?_) (fun _ => ?_)
      | refine O_gT' rfl ?_
      | refine O_gU' rfl ?_
      | refine O_gF' rfl rfl ?_
      | refine O_gEq rfl ?_
      | refine O_gNe rfl ?_
      | refine O_gS rfl (fun _ => ?_) (fun _ => ?_)
      | refine V_fin rfl rfl (Pl.view (by (repeat' (first | exact Pl.int _ _ | exact Pl.bool _ | exact Pl.str _ | exact Pl.nilSl | exact pl_nil | refine pl_cons ?_ ?_ | refine Pl.tuple _ ?_ | refine Pl.agg _ ?_ | assumption)); first | done | fail)) ?_
      | refine V_finN rfl rfl (Pl.view (by (repeat' (first | exact Pl.int _ _ | exact Pl.bool _ | exact Pl.str _ | exact Pl.nilSl | exact pl_nil | refine pl_cons ?_ ?_ | refine Pl.tuple _ ?_ | refine Pl.agg _ ?_ | assumption)); first | done | fail)) ?_
      | refine V_D rfl ?_
      | refine D_step rfl ?_
      | refine D_nil' ?_
      | refine D_gT' rfl ?_
      | refine D_gU' rfl ?_
      | refine D_gF' rfl rfl ?_
      | refine D_gS rfl (fun _ => ?_) (fun _ => ?_)
    rfl
set_option maxHeartbeats 4000000 in
theorem law_NumSums {v : PV} {l : List Int} (hv : LV ic v l) (hr : ∀ n ∈ l, R64 n) (hl : l.length ≤ 17592186044416) : T.R (.call n_ramblelaw01_NumSums [v] (.bool true)) := by
  have h1 := run_Sum hv hr (by omega)
  have h2 := run_rSum hv hr hl
  generalize ans l.sum = s at h1 h2
  obtain ⟨x, e⟩ := s
  have h3 : T.R (.call n_num_Sum [.sl [[.int .i64 1], [.int .i64 1]] true] (.tuple [.int .i64 2, .int .i64 0])) := run_Sum (LV.sl (c := ic) [1, 1] true) (by intro n hn; simp at hn; subst hn; unfold R64; omega) (by simp)
  have hp : Pl v := hv.pl (fun a _ x hx => by simp [ic] at hx; subst hx; exact .int _ _)
  have hq : Pl (.sl [[.int .i64 1], [.int .i64 1]] true) := (LV.sl (c := ic) [1, 1] true).pl (fun a _ x hx => by simp [ic] at hx; subst hx; exact .int _ _)
  refine call_V rfl rfl ?_
  repeat' first
    | refine O_callP rfl rfl (viewL_pl (by (repeat' (first | exact Pl.int _ _ | exact Pl.bool _ | exact Pl.str _ | exact Pl.nilSl | exact pl_nil | refine pl_cons ?_ ?_ | refine Pl.tuple _ ?_ | refine Pl.agg _ ?_ | assumption)); first | done | fail)) h1 ?_
    | refine O_callP rfl rfl (viewL_pl (by (repeat' (first | exact Pl.int _ _ | exact Pl.bool _ | exact Pl.str _ | exact Pl.nilSl | exact pl_nil | refine pl_cons ?_ ?_ | refine Pl.tuple _ ?_ | refine Pl.agg _ ?_ | assumption)); first | done | fail)) h2 ?_
    | refine O_callP rfl rfl (viewL_pl (by (repeat' (first | exact Pl.int _ _ | exact Pl.bool _ | exact Pl.str _ | exact Pl.nilSl | exact pl_nil | refine pl_cons ?_ ?_ | refine Pl.tuple _ ?_ | refine Pl.agg _ ?_ | assumption)); first | done | fail)) h3 ?_
    | refine V_O rfl ?_
    | refine O_step rfl ?_
    | refine O_nil' ?_
    | refine V_cT rfl rfl ?_
    | refine V_cF rfl rfl ?_
    | refine V_cEq rfl rfl ?_
    | refine V_cNe rfl rfl ?_
    | refine V_cB rfl rfl (fun _ => ?_) (fun _ => ?_)
    | refine O_gT' rfl ?_
    | refine O_gU' rfl ?_
    | refine O_gF' rfl rfl ?_
    | refine O_gEq rfl ?_
    | refine O_gNe rfl ?_
    | refine O_gS rfl (fun _ => ?_) (fun _ => ?_)
    | refine V_fin rfl rfl (Pl.view (by (repeat' (first | exact Pl.int _ _ | exact Pl.bool _ | exact Pl.str _ | exact Pl.nilSl | exact pl_nil | refine pl_cons ?_ ?_ | refine Pl.tuple _ ?_ | refine Pl.agg _ ?_ | assumption)); first | done | fail)) ?_
    | refine V_finN rfl rfl (Pl.view (by (repeat' (first | exact Pl.int _ _ | exact Pl.bool _ | exact Pl.str _ | exact Pl.nilSl | exact pl_nil | refine pl_cons ?_ ?_ | refine Pl.tuple _ ?_ | refine Pl.agg _ ?_ | assumption)); first | done | fail)) ?_
    | refine V_D rfl ?_
    | refine D_step rfl ?_
    | refine D_nil' ?_
    | refine D_gT' rfl ?_
    | refine D_gU' rfl ?_
    | refine D_gF' rfl rfl ?_
    | refine D_gS rfl (fun _ => ?_) (fun _ => ?_)

  all_goals simp
end Go.Proofs.Ythoknkogdldgcaa


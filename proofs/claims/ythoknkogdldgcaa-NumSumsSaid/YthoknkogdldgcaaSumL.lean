/- The sums. -/
import Derived.Test.YthoknkogdldgcaaNumA
set_option linter.unusedVariables false
set_option linter.unusedSimpArgs false
namespace Go.Proofs.Ythoknkogdldgcaa
open Go Go.AM Go.RowKit

def ic (n : Int) : List PV := [.int .i64 n]
/-- Two words that tell a sum. -/
def wst (S : Int) : St := ⟨0, 1, [(0, .var [.int .u64 (S % 18446744073709551616), .int .u64 (S / 18446744073709551616 % 18446744073709551616)])]⟩
theorem V_st {T : Tb} {Q : Post} {k : List Fr} {x : EX} {e : EC} {st st' : St} (h : st = st') (hv : V T Q k x e st') : V T Q k x e st := h ▸ hv
theorem sum_loop {v : PV} {l : List Int} (hv : LV ic v l) : ∀ (rest pre : List Int) (S : Int) (e : EC), l = pre ++ rest → (∀ n ∈ rest, R64 n) →
    e.get 4 = some (.ptr 0 0) → e.get 9 = some v → e.get 10 = some (.int .i64 l.length) → e.get 11 = some (.int .i64 pre.length) → l.length ≤ 140000000000000 →
    V T (PE fun x e' st' => x = .exit 0 ∧ e' = .put 4 (.ptr 0 0) .nil ∧ st' = wst (S + rest.sum)) [.code (.loop lp_num_Sum_0)] .normal e (wst S) := by
  intro rest
  induction rest with
  | nil =>
    intro pre S e hl hr h4 h9 h10 h11 hb
    refine V_less (.put 4 (.ptr 0 0) (.put 9 v (.put 10 (.int .i64 l.length) (.put 11 (.int .i64 pre.length) .nil)))) (less_put h4 (less_put h9 (less_put h10 (less_put h11 less_nil)))) (V_unroll ?_)
    repeat' first
      | refine V_O rfl ?_
      | refine O_step rfl ?_
      | refine O_nil' ?_
      | refine V_cT rfl rfl ?_
      | refine V_cF rfl rfl ?_
      | refine V_cEq rfl rfl ?_
      | refine V_cNe rfl rfl ?_
      | refine V_cB rfl rfl (fun _ => ?_) (fun _ => ?_)
      | refine O_gT' rfl ?_
      | refine O_gU' rfl ?_
      | refine O_gF' rfl rfl ?_
      | refine O_gEq rfl ?_
      | refine O_gNe rfl ?_
      | refine O_gS rfl (fun _ => ?_) (fun _ => ?_)
      | refine V_fin rfl rfl (Pl.view (by (repeat' (first | exact Pl.int _ _ | exact Pl.bool _ | exact Pl.str _ | exact Pl.nilSl | exact pl_nil | refine pl_cons ?_ ?_ | refine Pl.tuple _ ?_ | refine Pl.agg _ ?_ | assumption)); first | done | fail)) ?_
      | refine V_finN rfl rfl (Pl.view (by (repeat' (first | exact Pl.int _ _ | exact Pl.bool _ | exact Pl.str _ | exact Pl.nilSl | exact pl_nil | refine pl_cons ?_ ?_ | refine Pl.tuple _ ?_ | refine Pl.agg _ ?_ | assumption)); first | done | fail)) ?_
      | refine V_D rfl ?_
      | refine D_step rfl ?_
      | refine D_nil' ?_
      | refine D_gT' rfl ?_
      | refine D_gU' rfl ?_
      | refine D_gF' rfl rfl ?_
      | refine D_gS rfl (fun _ => ?_) (fun _ => ?_)
    · rename_i h
      subst hl
      simp at h
    · exact V_less (.put 4 (.ptr 0 0) .nil) (less_put rfl less_nil) (V_endP rfl ⟨rfl, rfl, by simp⟩)
  | cons n rest ih =>
    intro pre S e hl hr h4 h9 h10 h11 hb
    refine V_less (.put 4 (.ptr 0 0) (.put 9 v (.put 10 (.int .i64 l.length) (.put 11 (.int .i64 pre.length) .nil)))) (less_put h4 (less_put h9 (less_put h10 (less_put h11 less_nil)))) (V_unroll ?_)
    have hn : l[(pre.length : Int).toNat]? = some n := by subst hl; simp
    have hR := hr n (by simp)
    unfold R64 at hR
    refine V_st (show wst S = ⟨0, 1, [(0, .var [.int .u64 (S % 18446744073709551616), .int .u64 (S / 18446744073709551616 % 18446744073709551616)])]⟩ from rfl) ?_
    have fin : ∀ (X Y : Int) (e' : EC), X = (S + n) % 18446744073709551616 → Y = (S + n) / 18446744073709551616 % 18446744073709551616 → e'.get 4 = some (.ptr 0 0) → e'.get 9 = some v → e'.get 10 = some (.int .i64 l.length) → e'.get 11 = some (.int .i64 (IntKind.i64.wrap (pre.length + 1))) →
        V T (PE fun x e' st' => x = .exit 0 ∧ e' = .put 4 (.ptr 0 0) .nil ∧ st' = wst (S + (n :: rest).sum)) [.code (.loop lp_num_Sum_0)] .normal e' ⟨0, 1, [(0, .var [.int .u64 X, .int .u64 Y])]⟩ := by
      intro X Y e' hX hY g4 g9 g10 g11
      have hlen : pre.length < l.length := by subst hl; simp
      rw [wr (by unfold R64; omega)] at g11
      subst hX hY
      have := ih (pre ++ [n]) (S + n) e' (by subst hl; simp) (fun m hm => hr m (by simp [hm])) g4 g9 g10 (by rw [g11]; simp) hb
      rw [Int.add_assoc, ← List.sum_cons] at this
      exact this
    repeat' first
      | refine O_idxL n rfl hv rfl (by omega) hn rfl ?_
      | refine O_stepL rfl ?_
      | refine fin _ _ _ ?_ ?_ rfl rfl rfl rfl
      | refine V_O rfl ?_
      | refine O_step rfl ?_
      | refine O_nil' ?_
      | refine V_cT rfl rfl ?_
      | refine V_cF rfl rfl ?_
      | refine V_cEq rfl rfl ?_
      | refine V_cNe rfl rfl ?_
      | refine V_cB rfl rfl (fun _ => ?_) (fun _ => ?_)
      | refine O_gT' rfl ?_
      | refine O_gU' rfl ?_
      | refine O_gF' rfl rfl ?_
      | refine O_gEq rfl ?_
      | refine O_gNe rfl ?_
      | refine O_gS rfl (fun _ => ?_) (fun _ => ?_)
      | refine V_fin rfl rfl (Pl.view (by (repeat' (first | exact Pl.int _ _ | exact Pl.bool _ | exact Pl.str _ | exact Pl.nilSl | exact pl_nil | refine pl_cons ?_ ?_ | refine Pl.tuple _ ?_ | refine Pl.agg _ ?_ | assumption)); first | done | fail)) ?_
      | refine V_finN rfl rfl (Pl.view (by (repeat' (first | exact Pl.int _ _ | exact Pl.bool _ | exact Pl.str _ | exact Pl.nilSl | exact pl_nil | refine pl_cons ?_ ?_ | refine Pl.tuple _ ?_ | refine Pl.agg _ ?_ | assumption)); first | done | fail)) ?_
      | refine V_D rfl ?_
      | refine D_step rfl ?_
      | refine D_nil' ?_
      | refine D_gT' rfl ?_
      | refine D_gU' rfl ?_
      | refine D_gF' rfl rfl ?_
      | refine D_gS rfl (fun _ => ?_) (fun _ => ?_)
    all_goals simp only [wrap_u64, decide_eq_true_eq, decide_eq_false_iff_not] at *
    all_goals first
      | omega
      | (exfalso; subst hl; simp at *; omega)
theorem sum_bound : ∀ l : List Int, (∀ n ∈ l, R64 n) → -(9223372036854775808 * (l.length : Int)) ≤ l.sum ∧ l.sum ≤ 9223372036854775808 * (l.length : Int)
  | [], _ => by simp
  | n :: l, h => by
    have h1 := h n (by simp)
    have h2 := sum_bound l (fun m hm => h m (by simp [hm]))
    unfold R64 at h1
    simp only [List.sum_cons, List.length_cons]
    omega
theorem run_Sum {v : PV} {l : List Int} (hv : LV ic v l) (hr : ∀ n ∈ l, R64 n) (hl : l.length ≤ 140000000000000) : T.R (.call n_num_Sum [v] (two (ans l.sum))) := by
  have hsb := sum_bound l hr
  refine call_V rfl rfl ?_
  repeat' first
    | refine O_lenL rfl hv ?_
    | refine O_stepL rfl ?_
    | refine V_O rfl ?_
    | refine O_step rfl ?_
    | refine O_nil' ?_
    | refine V_cT rfl rfl ?_
    | refine V_cF rfl rfl ?_
    | refine V_cEq rfl rfl ?_
    | refine V_cNe rfl rfl ?_
    | refine V_cB rfl rfl (fun _ => ?_) (fun _ => ?_)
    | refine O_gT' rfl ?_
    | refine O_gU' rfl ?_
    | refine O_gF' rfl rfl ?_
    | refine O_gEq rfl ?_
    | refine O_gNe rfl ?_
    | refine O_gS rfl (fun _ => ?_) (fun _ => ?_)
    | refine V_fin rfl rfl (Pl.view (by (repeat' (first | exact Pl.int _ _ | exact Pl.bool _ | exact Pl.str _ | exact Pl.nilSl | exact pl_nil | refine pl_cons ?_ ?_ | refine Pl.tuple _ ?_ | refine Pl.agg _ ?_ | assumption)); first | done | fail)) ?_
    | refine V_finN rfl rfl (Pl.view (by (repeat' (first | exact Pl.int _ _ | exact Pl.bool _ | exact Pl.str _ | exact Pl.nilSl | exact pl_nil | refine pl_cons ?_ ?_ | refine Pl.tuple _ ?_ | refine Pl.agg _ ?_ | assumption)); first | done | fail)) ?_
    | refine V_D rfl ?_
    | refine D_step rfl ?_
    | refine D_nil' ?_
    | refine D_gT' rfl ?_
    | refine D_gU' rfl ?_
    | refine D_gF' rfl rfl ?_
    | refine D_gS rfl (fun _ => ?_) (fun _ => ?_)
  refine V_st (st' := wst 0) rfl ?_
  refine V_cutA rfl (sum_loop hv l [] 0 _ rfl hr rfl rfl rfl rfl hl) ?_
  rintro x e' st' ⟨rfl, rfl, rfl⟩
  rw [Int.zero_add]
  refine V_st (show wst l.sum = ⟨0, 1, [(0, .var [.int .u64 (l.sum % 18446744073709551616), .int .u64 (l.sum / 18446744073709551616 % 18446744073709551616)])]⟩ from rfl) ?_
  generalize l.sum = S at *
  repeat' first
    | refine O_callP rfl rfl (viewL_pl (by (repeat' (first | exact Pl.int _ _ | exact Pl.bool _ | exact Pl.str _ | exact Pl.nilSl | exact pl_nil | refine pl_cons ?_ ?_ | refine Pl.tuple _ ?_ | refine Pl.agg _ ?_ | assumption)); first | done | fail)) (run_told _ _) ?_
    | refine V_O rfl ?_
    | refine O_step rfl ?_
    | refine O_nil' ?_
    | refine V_cT rfl rfl ?_
    | refine V_cF rfl rfl ?_
    | refine V_cEq rfl rfl ?_
    | refine V_cNe rfl rfl ?_
    | refine V_cB rfl rfl (fun _ => ?_) (fun _ => ?_)
    | refine O_gT' rfl ?_
    | refine O_gU' rfl ?_
    | refine O_gF' rfl rfl ?_
    | refine O_gEq rfl ?_
    | refine O_gNe rfl ?_
    | refine O_gS rfl (fun _ => ?_) (fun _ => ?_)
    | refine V_fin rfl rfl (Pl.view (by (repeat' (first | exact Pl.int _ _ | exact Pl.bool _ | exact Pl.str _ | exact Pl.nilSl | exact pl_nil | refine pl_cons ?_ ?_ | refine Pl.tuple _ ?_ | refine Pl.agg _ ?_ | assumption)); first | done | fail)) ?_
    | refine V_finN rfl rfl (Pl.view (by (repeat' (first | exact Pl.int _ _ | exact Pl.bool _ | exact Pl.str _ | exact Pl.nilSl | exact pl_nil | refine pl_cons ?_ ?_ | refine Pl.tuple _ ?_ | refine Pl.agg _ ?_ | assumption)); first | done | fail)) ?_
    | refine V_D rfl ?_
    | refine D_step rfl ?_
    | refine D_nil' ?_
    | refine D_gT' rfl ?_
    | refine D_gU' rfl ?_
    | refine D_gF' rfl rfl ?_
    | refine D_gS rfl (fun _ => ?_) (fun _ => ?_)
  all_goals simp only [wrap_i64, decide_eq_true_eq, decide_eq_false_iff_not] at *
  · unfold two ans
    by_cases h : -9223372036854775808 ≤ S ∧ S ≤ 9223372036854775807
    · rw [if_pos h, if_pos (by omega)]
      congr 3
      omega
    · rw [if_neg h, if_neg (by omega)]
  · unfold two ans
    by_cases h : -9223372036854775808 ≤ S ∧ S ≤ 9223372036854775807
    · rw [if_pos h, if_pos (by omega)]
      congr 3
      omega
    · rw [if_neg h, if_neg (by omega)]
end Go.Proofs.Ythoknkogdldgcaa


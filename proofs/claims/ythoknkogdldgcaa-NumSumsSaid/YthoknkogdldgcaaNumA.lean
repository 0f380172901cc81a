/- num: sums, differences, products, turned signs: the program's and the document's. -/
import Derived.Test.YthoknkogdldgcaaT
set_option linter.unusedVariables false
set_option linter.unusedSimpArgs false
namespace Go.Proofs.Ythoknkogdldgcaa
open Go Go.AM Go.RowKit

def R64 (a : Int) : Prop := -9223372036854775808 ≤ a ∧ a ≤ 9223372036854775807
theorem wr {a : Int} (h : R64 a) : IntKind.i64.wrap a = a := by unfold R64 at h; rw [wrap_i64]; omega
theorem wrR (a : Int) : R64 (IntKind.i64.wrap a) := by rw [wrap_i64]; unfold R64; omega
/-- What a sum, difference or product answers: itself, where it has room. -/
def ans (x : Int) : Int × Int := if -9223372036854775808 ≤ x ∧ x ≤ 9223372036854775807 then (x, 0) else (0, 7)
theorem ans_R (x : Int) : R64 (ans x).1 := by
  unfold ans R64
  split
  · assumption
  · simp
def two (x : Int × Int) : PV := .tuple [.int .i64 x.1, .int .i64 x.2]

theorem run_told (a : Int) (b : Bool) : T.R (.call n_num_told [.int .i64 a, .bool b] (two (if b = true then (a, 0) else (0, 7)))) := by
  refine call_V rfl rfl ?_
  repeat' first
    | refine V_O rfl ?_
    | refine O_step rfl ?_
    | refine O_nil' ?_
    | refine V_cT rfl rfl ?_
    | refine V_cF rfl rfl ?_
    | refine V_cEq rfl rfl ?_
    | refine V_cNe rfl rfl ?_
    | refine V_cB rfl rfl (fun _ => ?_) (fun _ => ?_)
    | refine O_gT' rfl ?_
    | refine O_gU' rfl ?_
    | refine O_gF' rfl rfl ?_
    | refine O_gEq rfl ?_
    | refine O_gNe rfl ?_
    | refine O_gS rfl (fun _ => ?_) (fun _ => ?_)
    | refine V_fin rfl rfl (Pl.view (by (repeat' (first | exact Pl.int _ _ | exact Pl.bool _ | exact Pl.str _ | exact Pl.nilSl | exact pl_nil | refine pl_cons ?_ ?_ | refine Pl.tuple _ ?_ | refine Pl.agg _ ?_ | assumption)); first | done | fail)) ?_
    | refine V_finN rfl rfl (Pl.view (by (repeat' (first | exact Pl.int _ _ | exact Pl.bool _ | exact Pl.str _ | exact Pl.nilSl | exact pl_nil | refine pl_cons ?_ ?_ | refine Pl.tuple _ ?_ | refine Pl.agg _ ?_ | assumption)); first | done | fail)) ?_
    | refine V_D rfl ?_
    | refine D_step rfl ?_
    | refine D_nil' ?_
    | refine D_gT' rfl ?_
    | refine D_gU' rfl ?_
    | refine D_gF' rfl rfl ?_
    | refine D_gS rfl (fun _ => ?_) (fun _ => ?_)
  all_goals simp_all [two]

theorem run_Add (a b : Int) (ha : R64 a) (hb : R64 b) : T.R (.call n_num_Add [.int .i64 a, .int .i64 b] (two (ans (a + b)))) := by
  refine call_V rfl rfl ?_
  repeat' first
    | refine O_callP rfl rfl (viewL_pl (by (repeat' (first | exact Pl.int _ _ | exact Pl.bool _ | exact Pl.str _ | exact Pl.nilSl | exact pl_nil | refine pl_cons ?_ ?_ | refine Pl.tuple _ ?_ | refine Pl.agg _ ?_ | assumption)); first | done | fail)) (run_told _ _) ?_
    | refine V_O rfl ?_
    | refine O_step rfl ?_
    | refine O_nil' ?_
    | refine V_cT rfl rfl ?_
    | refine V_cF rfl rfl ?_
    | refine V_cEq rfl rfl ?_
    | refine V_cNe rfl rfl ?_
    | refine V_cB rfl rfl (fun _ => ?_) (fun _ => ?_)
    | refine O_gT' rfl ?_
    | refine O_gU' rfl ?_
    | refine O_gF' rfl rfl ?_
    | refine O_gEq rfl ?_
    | refine O_gNe rfl ?_
    | refine O_gS rfl (fun _ => ?_) (fun _ => ?_)
    | refine V_fin rfl rfl (Pl.view (by (repeat' (first | exact Pl.int _ _ | exact Pl.bool _ | exact Pl.str _ | exact Pl.nilSl | exact pl_nil | refine pl_cons ?_ ?_ | refine Pl.tuple _ ?_ | refine Pl.agg _ ?_ | assumption)); first | done | fail)) ?_
    | refine V_finN rfl rfl (Pl.view (by (repeat' (first | exact Pl.int _ _ | exact Pl.bool _ | exact Pl.str _ | exact Pl.nilSl | exact pl_nil | refine pl_cons ?_ ?_ | refine Pl.tuple _ ?_ | refine Pl.agg _ ?_ | assumption)); first | done | fail)) ?_
    | refine V_D rfl ?_
    | refine D_step rfl ?_
    | refine D_nil' ?_
    | refine D_gT' rfl ?_
    | refine D_gU' rfl ?_
    | refine D_gF' rfl rfl ?_
    | refine D_gS rfl (fun _ => ?_) (fun _ => ?_)
  unfold R64 at ha hb
  have hw := wrap_i64 (a + b)
  generalize IntKind.i64.wrap (a + b) = c at hw
  unfold ans two
  by_cases h : -9223372036854775808 ≤ a + b ∧ a + b ≤ 9223372036854775807
  · have : c = a + b := by omega
    subst this
    have e : (decide (a + b < a) == decide (b < 0)) = true := by
      rw [beq_iff_eq, decide_eq_decide]; omega
    simp [e, h]
  · have e : (decide (c < a) == decide (b < 0)) = false := by
      rw [beq_eq_false_iff_ne, ne_eq, decide_eq_decide]; omega
    simp [e, h]

theorem run_Sub (a b : Int) (ha : R64 a) (hb : R64 b) : T.R (.call n_num_Sub [.int .i64 a, .int .i64 b] (two (ans (a - b)))) := by
  refine call_V rfl rfl ?_
  repeat' first
    | refine O_callP rfl rfl (viewL_pl (by (repeat' (first | exact Pl.int _ _ | exact Pl.bool _ | exact Pl.str _ | exact Pl.nilSl | exact pl_nil | refine pl_cons ?_ ?_ | refine Pl.tuple _ ?_ | refine Pl.agg _ ?_ | assumption)); first | done | fail)) (run_told _ _) ?_
    | refine V_O rfl ?_
    | refine O_step rfl ?_
    | refine O_nil' ?_
    | refine V_cT rfl rfl ?_
    | refine V_cF rfl rfl ?_
    | refine V_cEq rfl rfl ?_
    | refine V_cNe rfl rfl ?_
    | refine V_cB rfl rfl (fun _ => ?_) (fun _ => ?_)
    | refine O_gT' rfl ?_
    | refine O_gU' rfl ?_
    | refine O_gF' rfl rfl ?_
    | refine O_gEq rfl ?_
    | refine O_gNe rfl ?_
    | refine O_gS rfl (fun _ => ?_) (fun _ => ?_)
    | refine V_fin rfl rfl (Pl.view (by (repeat' (first | exact Pl.int _ _ | exact Pl.bool _ | exact Pl.str _ | exact Pl.nilSl | exact pl_nil | refine pl_cons ?_ ?_ | refine Pl.tuple _ ?_ | refine Pl.agg _ ?_ | assumption)); first | done | fail)) ?_
    | refine V_finN rfl rfl (Pl.view (by (repeat' (first | exact Pl.int _ _ | exact Pl.bool _ | exact Pl.str _ | exact Pl.nilSl | exact pl_nil | refine pl_cons ?_ ?_ | refine Pl.tuple _ ?_ | refine Pl.agg _ ?_ | assumption)); first | done | fail)) ?_
    | refine V_D rfl ?_
    | refine D_step rfl ?_
    | refine D_nil' ?_
    | refine D_gT' rfl ?_
    | refine D_gU' rfl ?_
    | refine D_gF' rfl rfl ?_
    | refine D_gS rfl (fun _ => ?_) (fun _ => ?_)
  unfold R64 at ha hb
  have hw := wrap_i64 (a - b)
  generalize IntKind.i64.wrap (a - b) = c at hw
  unfold ans two
  by_cases h : -9223372036854775808 ≤ a - b ∧ a - b ≤ 9223372036854775807
  · have : c = a - b := by omega
    subst this
    have e : (decide (a < a - b) == decide (b < 0)) = true := by
      rw [beq_iff_eq, decide_eq_decide]; omega
    simp [e, h]
  · have e : (decide (a < c) == decide (b < 0)) = false := by
      rw [beq_eq_false_iff_ne, ne_eq, decide_eq_decide]; omega
    simp [e, h]

theorem run_Neg (a : Int) (ha : R64 a) : T.R (.call n_num_Neg [.int .i64 a] (two (ans (-a)))) := by
  refine call_V rfl rfl ?_
  repeat' first
    | refine O_callP rfl rfl (viewL_pl (by (repeat' (first | exact Pl.int _ _ | exact Pl.bool _ | exact Pl.str _ | exact Pl.nilSl | exact pl_nil | refine pl_cons ?_ ?_ | refine Pl.tuple _ ?_ | refine Pl.agg _ ?_ | assumption)); first | done | fail)) (run_told _ _) ?_
    | refine V_O rfl ?_
    | refine O_step rfl ?_
    | refine O_nil' ?_
    | refine V_cT rfl rfl ?_
    | refine V_cF rfl rfl ?_
    | refine V_cEq rfl rfl ?_
    | refine V_cNe rfl rfl ?_
    | refine V_cB rfl rfl (fun _ => ?_) (fun _ => ?_)
    | refine O_gT' rfl ?_
    | refine O_gU' rfl ?_
    | refine O_gF' rfl rfl ?_
    | refine O_gEq rfl ?_
    | refine O_gNe rfl ?_
    | refine O_gS rfl (fun _ => ?_) (fun _ => ?_)
    | refine V_fin rfl rfl (Pl.view (by (repeat' (first | exact Pl.int _ _ | exact Pl.bool _ | exact Pl.str _ | exact Pl.nilSl | exact pl_nil | refine pl_cons ?_ ?_ | refine Pl.tuple _ ?_ | refine Pl.agg _ ?_ | assumption)); first | done | fail)) ?_
    | refine V_finN rfl rfl (Pl.view (by (repeat' (first | exact Pl.int _ _ | exact Pl.bool _ | exact Pl.str _ | exact Pl.nilSl | exact pl_nil | refine pl_cons ?_ ?_ | refine Pl.tuple _ ?_ | refine Pl.agg _ ?_ | assumption)); first | done | fail)) ?_
    | refine V_D rfl ?_
    | refine D_step rfl ?_
    | refine D_nil' ?_
    | refine D_gT' rfl ?_
    | refine D_gU' rfl ?_
    | refine D_gF' rfl rfl ?_
    | refine D_gS rfl (fun _ => ?_) (fun _ => ?_)
  unfold R64 at ha
  have hw := wrap_i64 (0 - a)
  generalize IntKind.i64.wrap (0 - a) = c at hw
  unfold ans two
  by_cases h : a = -9223372036854775808
  · subst h; simp
  · have : c = -a := by omega
    subst this
    have h2 : -9223372036854775808 ≤ -a ∧ -a ≤ 9223372036854775807 := by omega
    simp [h, h2]

/-- The quotient test of a product. -/
theorem quot_test (a b c p : Int) (ha : R64 a) (hb : R64 b) (h0 : b ≠ 0) (hp : p = a * b) (hc : c = IntKind.i64.wrap p) (hl' : ¬ (b = -1 ∧ a = -9223372036854775808)) :
    (IntKind.i64.wrap (Int.tdiv c b) = a) ↔ (-9223372036854775808 ≤ p ∧ p ≤ 9223372036854775807) := by
  have hcr : R64 c := hc ▸ wrR p
  constructor
  · intro h
    have h1 : Int.tdiv c b * b + Int.tmod c b = c := Int.tdiv_mul_add_tmod c b
    have h2 : (Int.tmod c b).natAbs < b.natAbs := by
      rw [Int.natAbs_tmod]; exact Nat.mod_lt _ (Int.natAbs_pos.2 h0)
    have h3 : (Int.tdiv c b).natAbs ≤ c.natAbs := by
      rw [Int.natAbs_tdiv]; exact Nat.div_le_self _ _
    have hq : Int.tdiv c b = a := by
      by_cases hs : R64 (Int.tdiv c b)
      · rwa [wr hs] at h
      · exfalso
        have hc' : c = -9223372036854775808 := by unfold R64 at *; omega
        subst hc'
        have hd : Int.tdiv (-9223372036854775808) b = 9223372036854775808 := by unfold R64 at *; omega
        rw [hd] at h h1
        have ha' : a = -9223372036854775808 := by rw [← h, wrap_i64]; omega
        have : b = -1 := by unfold R64 at *; omega
        exact hl' ⟨this, ha'⟩
    rw [hq, ← hp] at h1
    rw [wrap_i64] at hc
    unfold R64 at *
    omega
  · intro h
    have : c = p := by rw [hc]; exact wr h
    subst this
    rw [hp, Int.mul_tdiv_cancel _ h0]
    exact wr ha

theorem two_in {x : Int} (h : R64 x) : two (ans x) = .tuple [.int .i64 x, .int .i64 0] := by unfold R64 at h; unfold ans two; rw [if_pos h]
theorem two_out {x : Int} (h : ¬ R64 x) : two (ans x) = .tuple [.int .i64 0, .int .i64 7] := by unfold R64 at h; unfold ans two; rw [if_neg h]
theorem mul_core (a b : Int) (ha : R64 a) (hb : R64 b) (h0 : b ≠ 0) (h1 : ¬ (b = -1 ∧ a = -9223372036854775808)) :
    two (if IntKind.i64.wrap ((IntKind.i64.wrap (a * b)).tdiv b) = a then (IntKind.i64.wrap (a * b), 0) else (0, 7)) = two (ans (a * b)) := by
  have hq := quot_test a b (IntKind.i64.wrap (a * b)) (a * b) ha hb h0 rfl rfl h1
  by_cases h : R64 (a * b)
  · rw [if_pos (hq.2 h), wr h, two_in h]; rfl
  · rw [if_neg (fun e => h (hq.1 e)), two_out h]; rfl
theorem run_Mul (a b : Int) (ha : R64 a) (hb : R64 b) : T.R (.call n_num_Mul [.int .i64 a, .int .i64 b] (two (ans (a * b)))) := by
  refine call_V rfl rfl ?_
  repeat' first
    | refine O_callP rfl rfl (viewL_pl (by (repeat' (first | exact Pl.int _ _ | exact Pl.bool _ | exact Pl.str _ | exact Pl.nilSl | exact pl_nil | refine pl_cons ?_ ?_ | refine Pl.tuple _ ?_ | refine Pl.agg _ ?_ | assumption)); first | done | fail)) (run_told _ _) ?_
    | refine O_quo rfl rfl (by assumption) ?_
    | refine V_O rfl ?_
    | refine O_step rfl ?_
    | refine O_nil' ?_
    | refine V_cT rfl rfl ?_
    | refine V_cF rfl rfl ?_
    | refine V_cEq rfl rfl ?_
    | refine V_cNe rfl rfl ?_
    | refine V_cB rfl rfl (fun _ => ?_) (fun _ => ?_)
    | refine O_gT' rfl ?_
    | refine O_gU' rfl ?_
    | refine O_gF' rfl rfl ?_
    | refine O_gEq rfl ?_
    | refine O_gNe rfl ?_
    | refine O_gS rfl (fun _ => ?_) (fun _ => ?_)
    | refine V_fin rfl rfl (Pl.view (by (repeat' (first | exact Pl.int _ _ | exact Pl.bool _ | exact Pl.str _ | exact Pl.nilSl | exact pl_nil | refine pl_cons ?_ ?_ | refine Pl.tuple _ ?_ | refine Pl.agg _ ?_ | assumption)); first | done | fail)) ?_
    | refine V_finN rfl rfl (Pl.view (by (repeat' (first | exact Pl.int _ _ | exact Pl.bool _ | exact Pl.str _ | exact Pl.nilSl | exact pl_nil | refine pl_cons ?_ ?_ | refine Pl.tuple _ ?_ | refine Pl.agg _ ?_ | assumption)); first | done | fail)) ?_
    | refine V_D rfl ?_
    | refine D_step rfl ?_
    | refine D_nil' ?_
    | refine D_gT' rfl ?_
    | refine D_gU' rfl ?_
    | refine D_gF' rfl rfl ?_
    | refine D_gS rfl (fun _ => ?_) (fun _ => ?_)
  all_goals simp only [decide_eq_true_eq, decide_eq_false_iff_not, Bool.not_eq_eq_eq_not, Bool.not_true, Bool.not_false] at *
  all_goals first
    | exact mul_core a b ha hb (by omega) (by omega)
    | (exfalso; omega)
    | (subst_vars; rfl)
    | (subst_vars; rw [Int.zero_mul]; rfl)
    | (subst_vars; rw [Int.mul_zero]; rfl)

/-! ### The document's -/
theorem run_rAdd (a b : Int) (ha : R64 a) (hb : R64 b) : T.R (.call n_rambleref01_Add [.int .i64 a, .int .i64 b] (two (ans (a + b)))) := by
  refine call_V rfl rfl ?_
  repeat' first
    | refine V_O rfl ?_
    | refine O_step rfl ?_
    | refine O_nil' ?_
    | refine V_cT rfl rfl ?_
    | refine V_cF rfl rfl ?_
    | refine V_cEq rfl rfl ?_
    | refine V_cNe rfl rfl ?_
    | refine V_cB rfl rfl (fun _ => ?_) (fun _ => ?_)
    | refine O_gT' rfl ?_
    | refine O_gU' rfl ?_
    | refine O_gF' rfl rfl ?_
    | refine O_gEq rfl ?_
    | refine O_gNe rfl ?_
    | refine O_gS rfl (fun _ => ?_) (fun _ => ?_)
    | refine V_fin rfl rfl (Pl.view (by (repeat' (first | exact Pl.int _ _ | exact Pl.bool _ | exact Pl.str _ | exact Pl.nilSl | exact pl_nil | refine pl_cons ?_ ?_ | refine Pl.tuple _ ?_ | refine Pl.agg _ ?_ | assumption)); first | done | fail)) ?_
    | refine V_finN rfl rfl (Pl.view (by (repeat' (first | exact Pl.int _ _ | exact Pl.bool _ | exact Pl.str _ | exact Pl.nilSl | exact pl_nil | refine pl_cons ?_ ?_ | refine Pl.tuple _ ?_ | refine Pl.agg _ ?_ | assumption)); first | done | fail)) ?_
    | refine V_D rfl ?_
    | refine D_step rfl ?_
    | refine D_nil' ?_
    | refine D_gT' rfl ?_
    | refine D_gU' rfl ?_
    | refine D_gF' rfl rfl ?_
    | refine D_gS rfl (fun _ => ?_) (fun _ => ?_)
  all_goals simp only [decide_eq_true_eq, decide_eq_false_iff_not, Bool.not_eq_eq_eq_not, Bool.not_true, Bool.not_false, wrap_i64] at *
  all_goals unfold R64 at ha hb
  all_goals first
    | (exfalso; omega)
    | (rw [two_out (by unfold R64; omega)])
    | (rw [two_in (by unfold R64; omega)]; congr 3; omega)
    | omega
theorem run_rSub (a b : Int) (ha : R64 a) (hb : R64 b) : T.R (.call n_rambleref01_Sub [.int .i64 a, .int .i64 b] (two (ans (a - b)))) := by
  refine call_V rfl rfl ?_
  repeat' first
    | refine V_O rfl ?_
    | refine O_step rfl ?_
    | refine O_nil' ?_
    | refine V_cT rfl rfl ?_
    | refine V_cF rfl rfl ?_
    | refine V_cEq rfl rfl ?_
    | refine V_cNe rfl rfl ?_
    | refine V_cB rfl rfl (fun _ => ?_) (fun _ => ?_)
    | refine O_gT' rfl ?_
    | refine O_gU' rfl ?_
    | refine O_gF' rfl rfl ?_
    | refine O_gEq rfl ?_
    | refine O_gNe rfl ?_
    | refine O_gS rfl (fun _ => ?_) (fun _ => ?_)
    | refine V_fin rfl rfl (Pl.view (by (repeat' (first | exact Pl.int _ _ | exact Pl.bool _ | exact Pl.str _ | exact Pl.nilSl | exact pl_nil | refine pl_cons ?_ ?_ | refine Pl.tuple _ ?_ | refine Pl.agg _ ?_ | assumption)); first | done | fail)) ?_
    | refine V_finN rfl rfl (Pl.view (by (repeat' (first | exact Pl.int _ _ | exact Pl.bool _ | exact Pl.str _ | exact Pl.nilSl | exact pl_nil | refine pl_cons ?_ ?_ | refine Pl.tuple _ ?_ | refine Pl.agg _ ?_ | assumption)); first | done | fail)) ?_
    | refine V_D rfl ?_
    | refine D_step rfl ?_
    | refine D_nil' ?_
    | refine D_gT' rfl ?_
    | refine D_gU' rfl ?_
    | refine D_gF' rfl rfl ?_
    | refine D_gS rfl (fun _ => ?_) (fun _ => ?_)
  all_goals simp only [decide_eq_true_eq, decide_eq_false_iff_not, Bool.not_eq_eq_eq_not, Bool.not_true, Bool.not_false, wrap_i64] at *
  all_goals unfold R64 at ha hb
  all_goals first
    | (exfalso; omega)
    | (rw [two_out (by unfold R64; omega)])
    | (rw [two_in (by unfold R64; omega)]; congr 3; omega)
    | omega
theorem run_rNeg (a : Int) (ha : R64 a) : T.R (.call n_rambleref01_Neg [.int .i64 a] (two (ans (-a)))) := by
  refine call_V rfl rfl ?_
  repeat' first
    | refine V_O rfl ?_
    | refine O_step rfl ?_
    | refine O_nil' ?_
    | refine V_cT rfl rfl ?_
    | refine V_cF rfl rfl ?_
    | refine V_cEq rfl rfl ?_
    | refine V_cNe rfl rfl ?_
    | refine V_cB rfl rfl (fun _ => ?_) (fun _ => ?_)
    | refine O_gT' rfl ?_
    | refine O_gU' rfl ?_
    | refine O_gF' rfl rfl ?_
    | refine O_gEq rfl ?_
    | refine O_gNe rfl ?_
    | refine O_gS rfl (fun _ => ?_) (fun _ => ?_)
    | refine V_fin rfl rfl (Pl.view (by (repeat' (first | exact Pl.int _ _ | exact Pl.bool _ | exact Pl.str _ | exact Pl.nilSl | exact pl_nil | refine pl_cons ?_ ?_ | refine Pl.tuple _ ?_ | refine Pl.agg _ ?_ | assumption)); first | done | fail)) ?_
    | refine V_finN rfl rfl (Pl.view (by (repeat' (first | exact Pl.int _ _ | exact Pl.bool _ | exact Pl.str _ | exact Pl.nilSl | exact pl_nil | refine pl_cons ?_ ?_ | refine Pl.tuple _ ?_ | refine Pl.agg _ ?_ | assumption)); first | done | fail)) ?_
    | refine V_D rfl ?_
    | refine D_step rfl ?_
    | refine D_nil' ?_
    | refine D_gT' rfl ?_
    | refine D_gU' rfl ?_
    | refine D_gF' rfl rfl ?_
    | refine D_gS rfl (fun _ => ?_) (fun _ => ?_)
  all_goals simp only [decide_eq_true_eq, decide_eq_false_iff_not, Bool.not_eq_eq_eq_not, Bool.not_true, Bool.not_false, wrap_i64] at *
  all_goals unfold R64 at ha
  all_goals first
    | (exfalso; omega)
    | (rw [two_out (by unfold R64; omega)])
    | (rw [two_in (by unfold R64; omega)]; congr 3; omega)
    | omega
theorem run_bare (a : Int) (ha : R64 a) : T.R (.call n_rambleref01_bare [.int .i64 a] (.int .u64 a.natAbs)) := by
  refine call_V rfl rfl ?_
  repeat' first
    | refine V_O rfl ?_
    | refine O_step rfl ?_
    | refine O_nil' ?_
    | refine V_cT rfl rfl ?_
    | refine V_cF rfl rfl ?_
    | refine V_cEq rfl rfl ?_
    | refine V_cNe rfl rfl ?_
    | refine V_cB rfl rfl (fun _ => ?_) (fun _ => ?_)
    | refine O_gT' rfl ?_
    | refine O_gU' rfl ?_
    | refine O_gF' rfl rfl ?_
    | refine O_gEq rfl ?_
    | refine O_gNe rfl ?_
    | refine O_gS rfl (fun _ => ?_) (fun _ => ?_)
    | refine V_fin rfl rfl (Pl.view (by (repeat' (first | exact Pl.int _ _ | exact Pl.bool _ | exact Pl.str _ | exact Pl.nilSl | exact pl_nil | refine pl_cons ?_ ?_ | refine Pl.tuple _ ?_ | refine Pl.agg _ ?_ | assumption)); first | done | fail)) ?_
    | refine V_finN rfl rfl (Pl.view (by (repeat' (first | exact Pl.int _ _ | exact Pl.bool _ | exact Pl.str _ | exact Pl.nilSl | exact pl_nil | refine pl_cons ?_ ?_ | refine Pl.tuple _ ?_ | refine Pl.agg _ ?_ | assumption)); first | done | fail)) ?_
    | refine V_D rfl ?_
    | refine D_step rfl ?_
    | refine D_nil' ?_
    | refine D_gT' rfl ?_
    | refine D_gU' rfl ?_
    | refine D_gF' rfl rfl ?_
    | refine D_gS rfl (fun _ => ?_) (fun _ => ?_)
  all_goals simp only [decide_eq_true_eq, decide_eq_false_iff_not, Bool.not_eq_eq_eq_not, Bool.not_true, Bool.not_false, wrap_u64] at *
  all_goals unfold R64 at ha
  all_goals congr 1; omega
theorem run_signed (neg : Bool) (u : Int) (hu : 0 ≤ u ∧ u < 18446744073709551616) : T.R (.call n_rambleref01_signed [.bool neg, .int .u64 u] (.int .i64 (IntKind.i64.wrap (if neg = true then -u else u)))) := by
  refine call_V rfl rfl ?_
  repeat' first
    | refine V_O rfl ?_
    | refine O_step rfl ?_
    | refine O_nil' ?_
    | refine V_cT rfl rfl ?_
    | refine V_cF rfl rfl ?_
    | refine V_cEq rfl rfl ?_
    | refine V_cNe rfl rfl ?_
    | refine V_cB rfl rfl (fun _ => ?_) (fun _ => ?_)
    | refine O_gT' rfl ?_
    | refine O_gU' rfl ?_
    | refine O_gF' rfl rfl ?_
    | refine O_gEq rfl ?_
    | refine O_gNe rfl ?_
    | refine O_gS rfl (fun _ => ?_) (fun _ => ?_)
    | refine V_fin rfl rfl (Pl.view (by (repeat' (first | exact Pl.int _ _ | exact Pl.bool _ | exact Pl.str _ | exact Pl.nilSl | exact pl_nil | refine pl_cons ?_ ?_ | refine Pl.tuple _ ?_ | refine Pl.agg _ ?_ | assumption)); first | done | fail)) ?_
    | refine V_finN rfl rfl (Pl.view (by (repeat' (first | exact Pl.int _ _ | exact Pl.bool _ | exact Pl.str _ | exact Pl.nilSl | exact pl_nil | refine pl_cons ?_ ?_ | refine Pl.tuple _ ?_ | refine Pl.agg _ ?_ | assumption)); first | done | fail)) ?_
    | refine V_D rfl ?_
    | refine D_step rfl ?_
    | refine D_nil' ?_
    | refine D_gT' rfl ?_
    | refine D_gU' rfl ?_
    | refine D_gF' rfl rfl ?_
    | refine D_gS rfl (fun _ => ?_) (fun _ => ?_)
  all_goals simp_all [wrap_u64, wrap_i64]
  all_goals omega
theorem rmul_core {a b : Int} (ha : R64 a) (hb : R64 b) (n : Bool) (hn : n = (decide (a < 0) != decide (b < 0))) (h1 : (a.natAbs : Int) ≠ 0) (h2 : (b.natAbs : Int) ≠ 0) (top : Int) (ht : top = if n = true then 9223372036854775808 else 9223372036854775807) :
    (top.tdiv b.natAbs < a.natAbs → ¬ R64 (a * b)) ∧ (¬ top.tdiv b.natAbs < a.natAbs → R64 (a * b) ∧ IntKind.i64.wrap (if n = true then -(IntKind.u64.wrap (a.natAbs * b.natAbs)) else IntKind.u64.wrap (a.natAbs * b.natAbs)) = a * b) := by
  have hp : (a.natAbs : Int) * b.natAbs = if n = true then -(a * b) else a * b := by
    rw [← Int.natCast_mul, ← Int.natAbs_mul]
    by_cases h3 : a < 0 <;> by_cases h4 : b < 0
    · have : 0 < a * b := Int.mul_pos_of_neg_of_neg h3 h4
      simp [hn, h3, h4]; omega
    · have hb' : 0 < b := by omega
      have : a * b < 0 := Int.mul_neg_of_neg_of_pos h3 hb'
      simp [hn, h3, h4]; omega
    · have ha' : 0 < a := by omega
      have : a * b < 0 := Int.mul_neg_of_pos_of_neg ha' h4
      simp [hn, h3, h4]; omega
    · have ha' : 0 < a := by omega
      have hb' : 0 < b := by omega
      have : 0 < a * b := Int.mul_pos ha' hb'
      simp [hn, h3, h4]; omega
  have hbp : 0 < (b.natAbs : Int) := by omega
  have htd : top.tdiv b.natAbs = top / b.natAbs := Int.tdiv_eq_ediv_of_nonneg (by subst ht; split <;> omega)
  have hpn : 0 ≤ (a.natAbs : Int) * b.natAbs := Int.mul_nonneg (by omega) (by omega)
  rw [htd]
  have hiff : top / (b.natAbs : Int) < a.natAbs ↔ top < (a.natAbs : Int) * b.natAbs := Int.ediv_lt_iff_lt_mul hbp
  rw [hiff]
  generalize (a.natAbs : Int) * b.natAbs = p at *
  refine ⟨fun h => ?_, fun h => ?_⟩
  · unfold R64; cases n <;> simp at hp ht <;> omega
  · rw [wrap_u64, wrap_i64]
    unfold R64; cases n <;> simp at hp ht ⊢ <;> omega
theorem wtd {top m : Int} (h0 : 0 ≤ top) (h1 : top < 18446744073709551616) (hm : 0 ≤ m) : IntKind.u64.wrap (top.tdiv m) = top.tdiv m := by
  rw [wrap_u64, Int.tdiv_eq_ediv_of_nonneg h0]
  have : top / m ≤ top := Int.ediv_le_self _ h0
  have : 0 ≤ top / m := Int.ediv_nonneg h0 hm
  omega
theorem run_rMul (a b : Int) (ha : R64 a) (hb : R64 b) : T.R (.call n_rambleref01_Mul [.int .i64 a, .int .i64 b] (two (ans (a * b)))) := by
  refine call_V rfl rfl ?_
  repeat' first
    | refine O_callP rfl rfl (viewL_pl (by (repeat' (first | exact Pl.int _ _ | exact Pl.bool _ | exact Pl.str _ | exact Pl.nilSl | exact pl_nil | refine pl_cons ?_ ?_ | refine Pl.tuple _ ?_ | refine Pl.agg _ ?_ | assumption)); first | done | fail)) (run_bare _ (by assumption)) ?_
    | refine O_callP rfl rfl (viewL_pl (by (repeat' (first | exact Pl.int _ _ | exact Pl.bool _ | exact Pl.str _ | exact Pl.nilSl | exact pl_nil | refine pl_cons ?_ ?_ | refine Pl.tuple _ ?_ | refine Pl.agg _ ?_ | assumption)); first | done | fail)) (run_signed _ _ (by rw [wrap_u64]; omega)) ?_
    | refine O_quo rfl rfl (by assumption) ?_
    | refine V_O rfl ?_
    | refine O_step rfl ?_
    | refine O_nil' ?_
    | refine V_cT rfl rfl ?_
    | refine V_cF rfl rfl ?_
    | refine V_cEq rfl rfl ?_
    | refine V_cNe rfl rfl ?_
    | refine V_cB rfl rfl (fun _ => ?_) (fun _ => ?_)
    | refine O_gT' rfl ?_
    | refine O_gU' rfl ?_
    | refine O_gF' rfl rfl ?_
    | refine O_gEq rfl ?_
    | refine O_gNe rfl ?_
    | refine O_gS rfl (fun _ => ?_) (fun _ => ?_)
    | refine V_fin rfl rfl (Pl.view (by (repeat' (first | exact Pl.int _ _ | exact Pl.bool _ | exact Pl.str _ | exact Pl.nilSl | exact pl_nil | refine pl_cons ?_ ?_ | refine Pl.tuple _ ?_ | refine Pl.agg _ ?_ | assumption)); first | done | fail)) ?_
    | refine V_finN rfl rfl (Pl.view (by (repeat' (first | exact Pl.int _ _ | exact Pl.bool _ | exact Pl.str _ | exact Pl.nilSl | exact pl_nil | refine pl_cons ?_ ?_ | refine Pl.tuple _ ?_ | refine Pl.agg _ ?_ | assumption)); first | done | fail)) ?_
    | refine V_D rfl ?_
    | refine D_step rfl ?_
    | refine D_nil' ?_
    | refine D_gT' rfl ?_
    | refine D_gU' rfl ?_
    | refine D_gF' rfl rfl ?_
    | refine D_gS rfl (fun _ => ?_) (fun _ => ?_)
  · rename_i h1 h2
    have : b = 0 := by simpa using h2
    subst this; rw [Int.mul_zero]; rfl
  · rename_i h1 h2 h3 h4
    have h3' : (decide (a < 0) != decide (b < 0)) = false := by simpa using h3
    rw [show IntKind.u64.wrap (9223372036854775808 - 1) = 9223372036854775807 from rfl, wtd (by omega) (by omega) (by omega)] at h4
    rw [two_out ((rmul_core ha hb false h3'.symm (by simpa using h1) (by simpa using h2) 9223372036854775807 rfl).1 (by simpa using h4))]
  · rename_i h1 h2 h3 h4
    have h3' : (decide (a < 0) != decide (b < 0)) = false := by simpa using h3
    rw [show IntKind.u64.wrap (9223372036854775808 - 1) = 9223372036854775807 from rfl, wtd (by omega) (by omega) (by omega)] at h4
    obtain ⟨k1, k2⟩ := (rmul_core ha hb false h3'.symm (by simpa using h1) (by simpa using h2) 9223372036854775807 rfl).2 (by simpa using h4)
    rw [two_in k1]
    show PV.tuple [PV.int .i64 (IntKind.i64.wrap (if (decide (a < 0) != decide (b < 0)) = true then -IntKind.u64.wrap (↑a.natAbs * ↑b.natAbs) else IntKind.u64.wrap (↑a.natAbs * ↑b.natAbs))), PV.int .i64 0] = _
    rw [h3', k2]
  · rename_i h1 h2 h3 h4
    have h3' : (decide (a < 0) != decide (b < 0)) = true := by simpa using h3
    rw [wtd (by omega) (by omega) (by omega)] at h4
    rw [two_out ((rmul_core ha hb true h3'.symm (by simpa using h1) (by simpa using h2) 9223372036854775808 rfl).1 (by simpa using h4))]
  · rename_i h1 h2 h3 h4
    have h3' : (decide (a < 0) != decide (b < 0)) = true := by simpa using h3
    rw [wtd (by omega) (by omega) (by omega)] at h4
    obtain ⟨k1, k2⟩ := (rmul_core ha hb true h3'.symm (by simpa using h1) (by simpa using h2) 9223372036854775808 rfl).2 (by simpa using h4)
    rw [two_in k1]
    show PV.tuple [PV.int .i64 (IntKind.i64.wrap (if (decide (a < 0) != decide (b < 0)) = true then -IntKind.u64.wrap (↑a.natAbs * ↑b.natAbs) else IntKind.u64.wrap (↑a.natAbs * ↑b.natAbs))), PV.int .i64 0] = _
    rw [h3', k2]
  · rename_i h1
    have : a = 0 := by simpa using h1
    subst this; rw [Int.zero_mul]; rfl

theorem ans_one : ans 2 = (2, 0) := rfl

set_option maxHeartbeats 4000000 in
theorem law_NumReckons (a b : Int) (ha : R64 a) (hb : R64 b) : T.R (.call n_ramblelaw01_NumReckons [.int .i64 a, .int .i64 b] (.bool true)) := by
  have r1 : R64 1 := by unfold R64; omega
  have h1 := run_Add a b ha hb
  have h2 := run_rAdd a b ha hb
  generalize ans (a + b) = s1 at h1 h2
  have h3 := run_Sub a b ha hb
  have h4 := run_rSub a b ha hb
  generalize ans (a - b) = s2 at h3 h4
  have h5 := run_Mul a b ha hb
  have h6 := run_rMul a b ha hb
  generalize ans (a * b) = s3 at h5 h6
  have h7 := run_Neg a ha
  have h8 := run_rNeg a ha
  generalize ans (-a) = s4 at h7 h8
  have h9 : T.R (.call n_num_Add [.int .i64 1, .int .i64 1] (.tuple [.int .i64 2, .int .i64 0])) := run_Add 1 1 r1 r1
  obtain ⟨x1, e1⟩ := s1
  obtain ⟨x2, e2⟩ := s2
  obtain ⟨x3, e3⟩ := s3
  obtain ⟨x4, e4⟩ := s4
  refine call_V rfl rfl ?_
  repeat' first
    | refine O_callP rfl rfl (viewL_pl (by (repeat' (first | exact Pl.int _ _ | exact Pl.bool _ | exact Pl.str _ | exact Pl.nilSl | exact pl_nil | refine pl_cons ?_ ?_ | refine Pl.tuple _ ?_ | refine Pl.agg _ ?_ | assumption)); first | done | fail)) h9 ?_
    | refine O_callP rfl rfl (viewL_pl (by (repeat' (first | exact Pl.int _ _ | exact Pl.bool _ | exact Pl.str _ | exact Pl.nilSl | exact pl_nil | refine pl_cons ?_ ?_ | refine Pl.tuple _ ?_ | refine Pl.agg _ ?_ | assumption)); first | done | fail)) h1 ?_
    | refine O_callP rfl rfl (viewL_pl (by (repeat' (first | exact Pl.int _ _ | exact Pl.bool _ | exact Pl.str _ | exact Pl.nilSl | exact pl_nil | refine pl_cons ?_ ?_ | refine Pl.tuple _ ?_ | refine Pl.agg _ ?_ | assumption)); first | done | fail)) h2 ?_
    | refine O_callP rfl rfl (viewL_pl (by (repeat' (first | exact Pl.int _ _ | exact Pl.bool _ | exact Pl.str _ | exact Pl.nilSl | exact pl_nil | refine pl_cons ?_ ?_ | refine Pl.tuple _ ?_ | refine Pl.agg _ ?_ | assumption)); first | done | fail)) h3 ?_
    | refine O_callP rfl rfl (viewL_pl (by (repeat' (first | exact Pl.int _ _ | exact Pl.bool _ | exact Pl.str _ | exact Pl.nilSl | exact pl_nil | refine pl_cons ?_ ?_ | refine Pl.tuple _ ?_ | refine Pl.agg _ ?_ | assumption)); first | done | fail)) h4 ?_
    | refine O_callP rfl rfl (viewL_pl (by (repeat' (first | exact Pl.int _ _ | exact Pl.bool _ | exact Pl.str _ | exact Pl.nilSl | exact pl_nil | refine pl_cons ?_ ?_ | refine Pl.tuple _ ?_ | refine Pl.agg _ ?_ | assumption)); first | done | fail)) h5 ?_
    | refine O_callP rfl rfl (viewL_pl (by (repeat' (first | exact Pl.int _ _ | exact Pl.bool _ | exact Pl.str _ | exact Pl.nilSl | exact pl_nil | refine pl_cons ?_ ?_ | refine Pl.tuple _ ?_ | refine Pl.agg _ ?_ | assumption)); first | done | fail)) h6 ?_
    | refine O_callP rfl rfl (viewL_pl (by (repeat' (first | exact Pl.int _ _ | exact Pl.bool _ | exact Pl.str _ | exact Pl.nilSl | exact pl_nil | refine pl_cons ?_ ?_ | refine Pl.tuple _ ?_ | refine Pl.agg _ ?_ | assumption)); first | done | fail)) h7 ?_
    | refine O_callP rfl rfl (viewL_pl (by (repeat' (first | exact Pl.int _ _ | exact Pl.bool _ | exact Pl.str _ | exact Pl.nilSl | exact pl_nil | refine pl_cons ?_ ?_ | refine Pl.tuple _ ?_ | refine Pl.agg _ ?_ | assumption)); first | done | fail)) h8 ?_
    | refine V_O rfl ?_
    | refine O_step rfl ?_
    | refine O_nil' ?_
    | refine V_cT rfl rfl ?_
    | refine V_cF rfl rfl ?_
    | refine V_cEq rfl rfl ?_
    | refine V_cNe rfl rfl ?_
    | refine V_cB rfl rfl (fun _ => ?_) (fun _ => ?_)
    | refine O_gT' rfl ?_
    | refine O_gU' rfl ?_
    | refine O_gF' rfl rfl ?_
    | refine O_gEq rfl ?_
    | refine O_gNe rfl ?_
    | refine O_gS rfl (fun _ => ?_) (fun _ => ?_)
    | refine V_fin rfl rfl (Pl.view (by (repeat' (first | exact Pl.int _ _ | exact Pl.bool _ | exact Pl.str _ | exact Pl.nilSl | exact pl_nil | refine pl_cons ?_ ?_ | refine Pl.tuple _ ?_ | refine Pl.agg _ ?_ | assumption)); first | done | fail)) ?_
    | refine V_finN rfl rfl (Pl.view (by (repeat' (first | exact Pl.int _ _ | exact Pl.bool _ | exact Pl.str _ | exact Pl.nilSl | exact pl_nil | refine pl_cons ?_ ?_ | refine Pl.tuple _ ?_ | refine Pl.agg _ ?_ | assumption)); first | done | fail)) ?_
    | refine V_D rfl ?_
    | refine D_step rfl ?_
    | refine D_nil' ?_
    | refine D_gT' rfl ?_
    | refine D_gU' rfl ?_
    | refine D_gF' rfl rfl ?_
    | refine D_gS rfl (fun _ => ?_) (fun _ => ?_)
  all_goals simp

end Go.Proofs.Ythoknkogdldgcaa


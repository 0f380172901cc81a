/- script.Line, rambleref25.Line. -/
import Derived.Test.YtbeaalkfakjoiaaDoorScrB
set_option linter.unusedVariables false
set_option linter.unusedSimpArgs false
namespace Go.Proofs.YtbeaalkfakjoiaaDoor
open Go Go.AM Go.RowKit
def eqC (a b : Cm) : Bool := decide (a.k = b.k) && (decide (a.se = b.se) && (decide (a.t = b.t) && (decide (a.to = b.to) && (decide (a.ke = b.ke) && true))))
theorem eqC_iff {a b : Cm} : eqC a b = true ↔ a = b := by
  obtain ⟨a1, a2, a3, a4, a5⟩ := a
  obtain ⟨b1, b2, b3, b4, b5⟩ := b
  simp [eqC]
def lineR (c : Cm) : List UInt8 × Int := if wordL c.k = [] then ([], 250) else if eqC (keepC c) c = false then ([], 250) else if 10 ∈ c.t then ([], 250) else if c.ke < 0 then ([], 250) else if 4096 < c.t.length then ([], 3) else (lineC c, 0)
def twoS (p : List UInt8 × Int) : PV := .tuple [.str p.1, .int .i64 p.2]
theorem pl_k5 (k se : Int) (t : List UInt8) (to ke : Int) : Pl (.agg (k5 k se t to ke)) := .agg _ (pl_cons (.int _ _) (pl_cons (.int _ _) (pl_cons (.str _) (pl_cons (.int _ _) (pl_cons (.int _ _) pl_nil)))))
theorem pl_cells (c : Cm) : Pl (.agg (cells c)) := pl_k5 _ _ _ _ _
set_option maxHeartbeats 4000000 in
theorem run_Line {k se to ke : Int} {t : List UInt8} (h1 : R64 se) (h2 : R64 to) (h3 : R64 ke) (ht : t.length ≤ 140737488355328) :
    T.R (.call n_script_Line [.agg (k5 k se t to ke)] (twoS (lineR ⟨k, se, t, to, ke⟩))) := by
  have hk := run_keep (k := k) h1 h2 h3 ht
  have hw := run_word k
  have hct := run_ContainsS t 10
  have plk := pl_k5 k se t to ke
  unfold lineR
  simp only
  generalize keepC ⟨k, se, t, to, ke⟩ = K at *
  generalize lineC ⟨k, se, t, to, ke⟩ = L at *
  generalize wordL k = W at *
  have plK := pl_cells K
  by_cases g1 : W = []
  · rw [if_pos g1]
    refine call_V rfl rfl ?_
    repeat' first | refine O_cA rfl rfl hk ?_ | refine O_cA rfl rfl hw ?_ | refine O_is (dec_is g1) rfl ?_ | refine O_step rfl ?_ | refine O_stepL rfl ?_ | refine V_O rfl ?_ | refine O_step rfl ?_ | refine O_nil' ?_ | refine V_cT rfl rfl ?_ | refine V_cF rfl rfl ?_ | refine V_cEq rfl rfl ?_ | refine V_cNe rfl rfl ?_ | refine V_cB rfl rfl (fun _ => ?_) (fun _ => ?_) | refine O_gT' rfl ?_ | refine O_gU' rfl ?_ | refine O_gF' rfl rfl ?_ | refine O_gEq rfl ?_ | refine O_gNe rfl ?_ | refine O_gS rfl (fun _ => ?_) (fun _ => ?_) | refine V_fA rfl rfl ?_ | refine V_fAN rfl rfl ?_ | refine V_D rfl ?_ | refine D_step rfl ?_ | refine D_nil' ?_ | refine D_gT' rfl ?_ | refine D_gU' rfl ?_ | refine D_gF' rfl rfl ?_ | refine D_gS rfl (fun _ => ?_) (fun _ => ?_)
    rfl
  · rw [if_neg g1]
    cases g2 : eqC K ⟨k, se, t, to, ke⟩ with
    | false =>
      rw [if_pos rfl]
      have e2 : PV.bool (!eqC K ⟨k, se, t, to, ke⟩) = PV.bool true := by rw [g2]; rfl
      refine call_V rfl rfl ?_
      repeat' first | refine O_cA rfl rfl hk ?_ | refine O_cA rfl rfl hw ?_ | refine O_is (dec_not g1) rfl ?_ | refine O_is e2 rfl ?_ | refine O_step rfl ?_ | refine O_stepL rfl ?_ | refine V_O rfl ?_ | refine O_step rfl ?_ | refine O_nil' ?_ | refine V_cT rfl rfl ?_ | refine V_cF rfl rfl ?_ | refine V_cEq rfl rfl ?_ | refine V_cNe rfl rfl ?_ | refine V_cB rfl rfl (fun _ => ?_) (fun _ => ?_) | refine O_gT' rfl ?_ | refine O_gU' rfl ?_ | refine O_gF' rfl rfl ?_ | refine O_gEq rfl ?_ | refine O_gNe rfl ?_ | refine O_gS rfl (fun _ => ?_) (fun _ => ?_) | refine V_fA rfl rfl ?_ | refine V_fAN rfl rfl ?_ | refine V_D rfl ?_ | refine D_step rfl ?_ | refine D_nil' ?_ | refine D_gT' rfl ?_ | refine D_gU' rfl ?_ | refine D_gF' rfl rfl ?_ | refine D_gS rfl (fun _ => ?_) (fun _ => ?_)
      rfl
    | true =>
      rw [if_neg (by simp)]
      have e2 : PV.bool (!eqC K ⟨k, se, t, to, ke⟩) = PV.bool false := by rw [g2]; rfl
      by_cases g3 : 10 ∈ t
      · rw [if_pos g3]
        rw [decide_eq_true g3] at hct
        refine call_V rfl rfl ?_
        repeat' first | refine O_cA rfl rfl hk ?_ | refine O_cA rfl rfl hw ?_ | refine O_is (dec_not g1) rfl ?_ | refine O_is e2 rfl ?_ | refine O_cA rfl rfl hct ?_ | refine O_step rfl ?_ | refine O_stepL rfl ?_ | refine V_O rfl ?_ | refine O_step rfl ?_ | refine O_nil' ?_ | refine V_cT rfl rfl ?_ | refine V_cF rfl rfl ?_ | refine V_cEq rfl rfl ?_ | refine V_cNe rfl rfl ?_ | refine V_cB rfl rfl (fun _ => ?_) (fun _ => ?_) | refine O_gT' rfl ?_ | refine O_gU' rfl ?_ | refine O_gF' rfl rfl ?_ | refine O_gEq rfl ?_ | refine O_gNe rfl ?_ | refine O_gS rfl (fun _ => ?_) (fun _ => ?_) | refine V_fA rfl rfl ?_ | refine V_fAN rfl rfl ?_ | refine V_D rfl ?_ | refine D_step rfl ?_ | refine D_nil' ?_ | refine D_gT' rfl ?_ | refine D_gU' rfl ?_ | refine D_gF' rfl rfl ?_ | refine D_gS rfl (fun _ => ?_) (fun _ => ?_)
        rfl
      · rw [if_neg g3]
        rw [decide_eq_false g3] at hct
        by_cases g4 : ke < 0
        · rw [if_pos g4]
          refine call_V rfl rfl ?_
          repeat' first | refine O_cA rfl rfl hk ?_ | refine O_cA rfl rfl hw ?_ | refine O_is (dec_not g1) rfl ?_ | refine O_is e2 rfl ?_ | refine O_cA rfl rfl hct ?_ | refine O_is (dec_is g4) rfl ?_ | refine O_step rfl ?_ | refine O_stepL rfl ?_ | refine V_O rfl ?_ | refine O_step rfl ?_ | refine O_nil' ?_ | refine V_cT rfl rfl ?_ | refine V_cF rfl rfl ?_ | refine V_cEq rfl rfl ?_ | refine V_cNe rfl rfl ?_ | refine V_cB rfl rfl (fun _ => ?_) (fun _ => ?_) | refine O_gT' rfl ?_ | refine O_gU' rfl ?_ | refine O_gF' rfl rfl ?_ | refine O_gEq rfl ?_ | refine O_gNe rfl ?_ | refine O_gS rfl (fun _ => ?_) (fun _ => ?_) | refine V_fA rfl rfl ?_ | refine V_fAN rfl rfl ?_ | refine V_D rfl ?_ | refine D_step rfl ?_ | refine D_nil' ?_ | refine D_gT' rfl ?_ | refine D_gU' rfl ?_ | refine D_gF' rfl rfl ?_ | refine D_gS rfl (fun _ => ?_) (fun _ => ?_)
          rfl
        · rw [if_neg g4]
          by_cases g5 : 4096 < t.length
          · rw [if_pos g5]
            have g5' : (4096 : Int) < t.length := by omega
            refine call_V rfl rfl ?_
            repeat' first | refine O_cA rfl rfl hk ?_ | refine O_cA rfl rfl hw ?_ | refine O_is (dec_not g1) rfl ?_ | refine O_is e2 rfl ?_ | refine O_cA rfl rfl hct ?_ | refine O_is (dec_not g4) rfl ?_ | refine O_is (dec_is g5') rfl ?_ | refine O_step rfl ?_ | refine O_stepL rfl ?_ | refine V_O rfl ?_ | refine O_step rfl ?_ | refine O_nil' ?_ | refine V_cT rfl rfl ?_ | refine V_cF rfl rfl ?_ | refine V_cEq rfl rfl ?_ | refine V_cNe rfl rfl ?_ | refine V_cB rfl rfl (fun _ => ?_) (fun _ => ?_) | refine O_gT' rfl ?_ | refine O_gU' rfl ?_ | refine O_gF' rfl rfl ?_ | refine O_gEq rfl ?_ | refine O_gNe rfl ?_ | refine O_gS rfl (fun _ => ?_) (fun _ => ?_) | refine V_fA rfl rfl ?_ | refine V_fAN rfl rfl ?_ | refine V_D rfl ?_ | refine D_step rfl ?_ | refine D_nil' ?_ | refine D_gT' rfl ?_ | refine D_gU' rfl ?_ | refine D_gF' rfl rfl ?_ | refine D_gS rfl (fun _ => ?_) (fun _ => ?_)
            rfl
          · rw [if_neg g5]
            have g5' : ¬ (4096 : Int) < t.length := by omega
            refine call_V rfl rfl ?_
            repeat' first | refine O_cA rfl rfl hk ?_ | refine O_cA rfl rfl hw ?_ | refine O_is (dec_not g1) rfl ?_ | refine O_is e2 rfl ?_ | refine O_cA rfl rfl hct ?_ | refine O_is (dec_not g4) rfl ?_ | refine O_is (dec_not g5') rfl ?_ | refine O_step rfl ?_ | refine O_stepL rfl ?_ | refine V_O rfl ?_ | refine O_step rfl ?_ | refine O_nil' ?_ | refine V_cT rfl rfl ?_ | refine V_cF rfl rfl ?_ | refine V_cEq rfl rfl ?_ | refine V_cNe rfl rfl ?_ | refine V_cB rfl rfl (fun _ => ?_) (fun _ => ?_) | refine O_gT' rfl ?_ | refine O_gU' rfl ?_ | refine O_gF' rfl rfl ?_ | refine O_gEq rfl ?_ | refine O_gNe rfl ?_ | refine O_gS rfl (fun _ => ?_) (fun _ => ?_) | refine V_fA rfl rfl ?_ | refine V_fAN rfl rfl ?_ | refine V_D rfl ?_ | refine D_step rfl ?_ | refine D_nil' ?_ | refine D_gT' rfl ?_ | refine D_gU' rfl ?_ | refine D_gF' rfl rfl ?_ | refine D_gS rfl (fun _ => ?_) (fun _ => ?_)
            rfl
end Go.Proofs.YtbeaalkfakjoiaaDoor

/- rambleref25.Line. -/
import Derived.Test.YtbeaalkfakjoiaaDoorScrBToScrC
set_option linter.unusedVariables false
set_option linter.unusedSimpArgs false
namespace Go.Proofs.YtbeaalkfakjoiaaDoor
open Go Go.AM Go.RowKit
theorem wordL6 : wordL 6 = wCrash := rfl
set_option maxHeartbeats 4000000 in
theorem run_rLine {k se to ke : Int} {t : List UInt8} (h1 : R64 se) (h2 : R64 to) (h3 : R64 ke) (ht : t.length ≤ 140737488355328) :
    T.R (.call n_rambleref25_Line [.agg (k5 k se t to ke)] (twoS (lineR ⟨k, se, t, to, ke⟩))) := by
  have hw := run_rWord k
  have ha := run_asks k
  have hen := run_lineEnd (s := t) (by omega)
  have t1 := run_rText h1
  have t2 := run_rText h2
  have t3 := run_rText h3
  have plk := pl_k5 k se t to ke
  have l0 := wordL_len k
  have l1 := itoa_len h1
  have l2 := itoa_len h2
  have l3 := itoa_len h3
  have c0 : (wordL k).length + ([32] : List UInt8).length ≤ 9223372036854775807 := by simp; omega
  have c1 : (wordL k ++ [32]).length + (Lib.itoa to).length ≤ 9223372036854775807 := by simp; omega
  have c2 : (wordL k ++ [32] ++ Lib.itoa to).length + ([32] : List UInt8).length ≤ 9223372036854775807 := by simp; omega
  have c3 : (wordL k ++ [32] ++ Lib.itoa to ++ [32]).length + (Lib.itoa ke).length ≤ 9223372036854775807 := by simp; omega
  have d1 : (wordL k ++ [32]).length + (Lib.itoa se).length ≤ 9223372036854775807 := by simp; omega
  have d2 : ([32] : List UInt8).length + t.length ≤ 9223372036854775807 := by simp; omega
  have d3 : (wordL k ++ [32] ++ Lib.itoa se).length + ([32] ++ t).length ≤ 9223372036854775807 := by simp; omega
  by_cases h6 : k = 6
  · have hA : isAsk k = false := by rw [h6]; rfl
    rw [hA] at ha
    have hW : ¬ wordL k = [] := by rw [h6]; decide
    by_cases g2 : t = []
    · subst g2
      rw [decide_eq_false (by simp : (10 : UInt8) ∉ ([] : List UInt8))] at hen
      by_cases g3 : se = 0
      · by_cases g4 : ke < 0
        · have hl : lineR ⟨k, se, [], to, ke⟩ = ([], 250) := by simp [lineR, keepC, eqC, h6, hW, g4, g3]
          rw [hl]
          refine call_V rfl rfl ?_
          repeat' first | ((with_reducible show V _ _ _ _ _ _); first | refine V_O rfl ?_ | refine V_cT rfl rfl ?_ | refine V_cF rfl rfl ?_ | refine V_cEq rfl rfl ?_ | refine V_cNe rfl rfl ?_ | refine V_cB rfl rfl (fun _ => ?_) (fun _ => ?_) | refine V_fA rfl rfl ?_ | refine V_fAN rfl rfl ?_ | refine V_D rfl ?_) | ((with_reducible show VO _ _ _ _ _ _ _); first | refine O_cA rfl rfl hw ?_ | refine O_cA rfl rfl ha ?_ | refine O_cA rfl rfl hen ?_ | refine O_is (dec_is h6) rfl ?_ | refine O_is (dec_not hW) rfl ?_ | refine O_is (ndec_is g3) rfl ?_ | refine O_is (dec_is g4) rfl ?_ | refine O_step rfl ?_ | refine O_stepL rfl ?_ | refine O_nil' ?_ | refine O_gT' rfl ?_ | refine O_gU' rfl ?_ | refine O_gF' rfl rfl ?_ | refine O_gEq rfl ?_ | refine O_gNe rfl ?_ | refine O_gS rfl (fun _ => ?_) (fun _ => ?_)) | ((with_reducible show VD _ _ _ _ _ _ _); first | refine D_step rfl ?_ | refine D_nil' ?_ | refine D_gT' rfl ?_ | refine D_gU' rfl ?_ | refine D_gF' rfl rfl ?_ | refine D_gS rfl (fun _ => ?_) (fun _ => ?_))
          rfl
        · have hl : lineR ⟨k, se, [], to, ke⟩ = (wordL k ++ [32] ++ Lib.itoa to ++ [32] ++ Lib.itoa ke, 0) := by simp [lineR, lineC, keepC, eqC, h6, wordL6, wCrash, g4, g3]
          rw [hl]
          refine call_V rfl rfl ?_
          repeat' first | ((with_reducible show V _ _ _ _ _ _); first | refine V_D rfl ?_ | refine V_O rfl ?_ | refine V_cT rfl rfl ?_ | refine V_cF rfl rfl ?_ | refine V_cEq rfl rfl ?_ | refine V_cNe rfl rfl ?_ | refine V_cB rfl rfl (fun _ => ?_) (fun _ => ?_) | refine V_fA rfl rfl ?_ | refine V_fAN rfl rfl ?_) | ((with_reducible show VO _ _ _ _ _ _ _); first | refine O_cA rfl rfl hw ?_ | refine O_cA rfl rfl ha ?_ | refine O_cA rfl rfl hen ?_ | refine O_is (dec_is h6) rfl ?_ | refine O_is (dec_not hW) rfl ?_ | refine O_is (ndec_is g3) rfl ?_ | refine O_is (dec_not g4) rfl ?_ | refine O_cat c0 rfl rfl ?_ | refine O_step rfl ?_ | refine O_stepL rfl ?_ | refine O_nil' ?_ | refine O_gT' rfl ?_ | refine O_gU' rfl ?_ | refine O_gF' rfl rfl ?_ | refine O_gEq rfl ?_ | refine O_gNe rfl ?_ | refine O_gS rfl (fun _ => ?_) (fun _ => ?_)) | ((with_reducible show VD _ _ _ _ _ _ _); first | refine D_cA rfl rfl t2 ?_ | refine D_cA rfl rfl t3 ?_ | refine D_step (cat_q c1 rfl rfl) ?_ | refine D_step (cat_q c2 rfl rfl) ?_ | refine D_step (cat_q c3 rfl rfl) ?_ | refine D_step rfl ?_ | refine D_nil' ?_ | refine D_gT' rfl ?_ | refine D_gU' rfl ?_ | refine D_gF' rfl rfl ?_ | refine D_gS rfl (fun _ => ?_) (fun _ => ?_))
          rfl
      · have hl : lineR ⟨k, se, [], to, ke⟩ = ([], 250) := by simp [lineR, keepC, eqC, h6, hW, g3, Ne.symm g3]
        rw [hl]
        refine call_V rfl rfl ?_
        repeat' first | ((with_reducible show V _ _ _ _ _ _); first | refine V_O rfl ?_ | refine V_cT rfl rfl ?_ | refine V_cF rfl rfl ?_ | refine V_cEq rfl rfl ?_ | refine V_cNe rfl rfl ?_ | refine V_cB rfl rfl (fun _ => ?_) (fun _ => ?_) | refine V_fA rfl rfl ?_ | refine V_fAN rfl rfl ?_ | refine V_D rfl ?_) | ((with_reducible show VO _ _ _ _ _ _ _); first | refine O_cA rfl rfl hw ?_ | refine O_cA rfl rfl ha ?_ | refine O_cA rfl rfl hen ?_ | refine O_is (dec_is h6) rfl ?_ | refine O_is (dec_not hW) rfl ?_ | refine O_is (ndec_not g3) rfl ?_ | refine O_step rfl ?_ | refine O_stepL rfl ?_ | refine O_nil' ?_ | refine O_gT' rfl ?_ | refine O_gU' rfl ?_ | refine O_gF' rfl rfl ?_ | refine O_gEq rfl ?_ | refine O_gNe rfl ?_ | refine O_gS rfl (fun _ => ?_) (fun _ => ?_)) | ((with_reducible show VD _ _ _ _ _ _ _); first | refine D_step rfl ?_ | refine D_nil' ?_ | refine D_gT' rfl ?_ | refine D_gU' rfl ?_ | refine D_gF' rfl rfl ?_ | refine D_gS rfl (fun _ => ?_) (fun _ => ?_))
        rfl
    · have hl : lineR ⟨k, se, t, to, ke⟩ = ([], 250) := by simp [lineR, keepC, eqC, h6, hW, g2, Ne.symm g2]
      rw [hl]
      refine call_V rfl rfl ?_
      repeat' first | ((with_reducible show V _ _ _ _ _ _); first | refine V_O rfl ?_ | refine V_cT rfl rfl ?_ | refine V_cF rfl rfl ?_ | refine V_cEq rfl rfl ?_ | refine V_cNe rfl rfl ?_ | refine V_cB rfl rfl (fun _ => ?_) (fun _ => ?_) | refine V_fA rfl rfl ?_ | refine V_fAN rfl rfl ?_ | refine V_D rfl ?_) | ((with_reducible show VO _ _ _ _ _ _ _); first | refine O_cA rfl rfl hw ?_ | refine O_cA rfl rfl ha ?_ | refine O_cA rfl rfl hen ?_ | refine O_is (dec_is h6) rfl ?_ | refine O_is (dec_not hW) rfl ?_ | refine O_is (ndec_not g2) rfl ?_ | refine O_step rfl ?_ | refine O_stepL rfl ?_ | refine O_nil' ?_ | refine O_gT' rfl ?_ | refine O_gU' rfl ?_ | refine O_gF' rfl rfl ?_ | refine O_gEq rfl ?_ | refine O_gNe rfl ?_ | refine O_gS rfl (fun _ => ?_) (fun _ => ?_)) | ((with_reducible show VD _ _ _ _ _ _ _); first | refine D_step rfl ?_ | refine D_nil' ?_ | refine D_gT' rfl ?_ | refine D_gU' rfl ?_ | refine D_gF' rfl rfl ?_ | refine D_gS rfl (fun _ => ?_) (fun _ => ?_))
      rfl
  · by_cases hW : wordL k = []
    · have hl : lineR ⟨k, se, t, to, ke⟩ = ([], 250) := by simp [lineR, keepC, eqC, hW]
      rw [hl]
      refine call_V rfl rfl ?_
      repeat' first | ((with_reducible show V _ _ _ _ _ _); first | refine V_O rfl ?_ | refine V_cT rfl rfl ?_ | refine V_cF rfl rfl ?_ | refine V_cEq rfl rfl ?_ | refine V_cNe rfl rfl ?_ | refine V_cB rfl rfl (fun _ => ?_) (fun _ => ?_) | refine V_fA rfl rfl ?_ | refine V_fAN rfl rfl ?_ | refine V_D rfl ?_) | ((with_reducible show VO _ _ _ _ _ _ _); first | refine O_cA rfl rfl hw ?_ | refine O_cA rfl rfl ha ?_ | refine O_cA rfl rfl hen ?_ | refine O_is (dec_not h6) rfl ?_ | refine O_is (dec_is hW) rfl ?_ | refine O_step rfl ?_ | refine O_stepL rfl ?_ | refine O_nil' ?_ | refine O_gT' rfl ?_ | refine O_gU' rfl ?_ | refine O_gF' rfl rfl ?_ | refine O_gEq rfl ?_ | refine O_gNe rfl ?_ | refine O_gS rfl (fun _ => ?_) (fun _ => ?_)) | ((with_reducible show VD _ _ _ _ _ _ _); first | refine D_step rfl ?_ | refine D_nil' ?_ | refine D_gT' rfl ?_ | refine D_gU' rfl ?_ | refine D_gF' rfl rfl ?_ | refine D_gS rfl (fun _ => ?_) (fun _ => ?_))
      rfl
    · cases hA : isAsk k with
      | true =>
        rw [hA] at ha
        by_cases g3 : 10 ∈ t
        · rw [decide_eq_true g3] at hen
          have hl : lineR ⟨k, se, t, to, ke⟩ = ([], 250) := by simp [lineR, keepC, eqC, g3]
          rw [hl]
          refine call_V rfl rfl ?_
          repeat' first | ((with_reducible show V _ _ _ _ _ _); first | refine V_O rfl ?_ | refine V_cT rfl rfl ?_ | refine V_cF rfl rfl ?_ | refine V_cEq rfl rfl ?_ | refine V_cNe rfl rfl ?_ | refine V_cB rfl rfl (fun _ => ?_) (fun _ => ?_) | refine V_fA rfl rfl ?_ | refine V_fAN rfl rfl ?_ | refine V_D rfl ?_) | ((with_reducible show VO _ _ _ _ _ _ _); first | refine O_cA rfl rfl hw ?_ | refine O_cA rfl rfl ha ?_ | refine O_cA rfl rfl hen ?_ | refine O_is (dec_not h6) rfl ?_ | refine O_is (dec_not hW) rfl ?_ | refine O_step rfl ?_ | refine O_stepL rfl ?_ | refine O_nil' ?_ | refine O_gT' rfl ?_ | refine O_gU' rfl ?_ | refine O_gF' rfl rfl ?_ | refine O_gEq rfl ?_ | refine O_gNe rfl ?_ | refine O_gS rfl (fun _ => ?_) (fun _ => ?_)) | ((with_reducible show VD _ _ _ _ _ _ _); first | refine D_step rfl ?_ | refine D_nil' ?_ | refine D_gT' rfl ?_ | refine D_gU' rfl ?_ | refine D_gF' rfl rfl ?_ | refine D_gS rfl (fun _ => ?_) (fun _ => ?_))
          rfl
        · rw [decide_eq_false g3] at hen
          by_cases g4 : to = 0
          · by_cases g5 : ke = 0
            · have g6 : ¬ ke < 0 := by omega
              by_cases g7 : 4096 < t.length
              · have g7' : (4096 : Int) < t.length := by omega
                have hl : lineR ⟨k, se, t, to, ke⟩ = ([], 3) := by simp [lineR, keepC, eqC, h6, hA, hW, g3, g4, g5, g7]
                rw [hl]
                refine call_V rfl rfl ?_
                repeat' first | ((with_reducible show V _ _ _ _ _ _); first | refine V_O rfl ?_ | refine V_cT rfl rfl ?_ | refine V_cF rfl rfl ?_ | refine V_cEq rfl rfl ?_ | refine V_cNe rfl rfl ?_ | refine V_cB rfl rfl (fun _ => ?_) (fun _ => ?_) | refine V_fA rfl rfl ?_ | refine V_fAN rfl rfl ?_ | refine V_D rfl ?_) | ((with_reducible show VO _ _ _ _ _ _ _); first | refine O_cA rfl rfl hw ?_ | refine O_cA rfl rfl ha ?_ | refine O_cA rfl rfl hen ?_ | refine O_is (dec_not h6) rfl ?_ | refine O_is (dec_not hW) rfl ?_ | refine O_is (ndec_is g4) rfl ?_ | refine O_is (ndec_is g5) rfl ?_ | refine O_is (dec_not g6) rfl ?_ | refine O_is (dec_is g7') rfl ?_ | refine O_step rfl ?_ | refine O_stepL rfl ?_ | refine O_nil' ?_ | refine O_gT' rfl ?_ | refine O_gU' rfl ?_ | refine O_gF' rfl rfl ?_ | refine O_gEq rfl ?_ | refine O_gNe rfl ?_ | refine O_gS rfl (fun _ => ?_) (fun _ => ?_)) | ((with_reducible show VD _ _ _ _ _ _ _); first | refine D_step rfl ?_ | refine D_nil' ?_ | refine D_gT' rfl ?_ | refine D_gU' rfl ?_ | refine D_gF' rfl rfl ?_ | refine D_gS rfl (fun _ => ?_) (fun _ => ?_))
                rfl
              · have g7' : ¬ (4096 : Int) < t.length := by omega
                have hl : lineR ⟨k, se, t, to, ke⟩ = (wordL k ++ [32] ++ Lib.itoa se ++ ([32] ++ t), 0) := by simp [lineR, lineC, keepC, eqC, h6, hA, hW, g3, g4, g5, g7]
                rw [hl]
                refine call_V rfl rfl ?_
                repeat' first | ((with_reducible show V _ _ _ _ _ _); first | refine V_O rfl ?_ | refine V_cT rfl rfl ?_ | refine V_cF rfl rfl ?_ | refine V_cEq rfl rfl ?_ | refine V_cNe rfl rfl ?_ | refine V_cB rfl rfl (fun _ => ?_) (fun _ => ?_) | refine V_fA rfl rfl ?_ | refine V_fAN rfl rfl ?_ | refine V_D rfl ?_) | ((with_reducible show VO _ _ _ _ _ _ _); first | refine O_cA rfl rfl hw ?_ | refine O_cA rfl rfl ha ?_ | refine O_cA rfl rfl hen ?_ | refine O_is (dec_not h6) rfl ?_ | refine O_is (dec_not hW) rfl ?_ | refine O_is (ndec_is g4) rfl ?_ | refine O_is (ndec_is g5) rfl ?_ | refine O_is (dec_not g6) rfl ?_ | refine O_is (dec_not g7') rfl ?_ | refine O_cat c0 rfl rfl ?_ | refine O_cA rfl rfl t1 ?_ | refine O_cat d1 rfl rfl ?_ | refine O_cat d2 rfl rfl ?_ | refine O_cat d3 rfl rfl ?_ | refine O_step rfl ?_ | refine O_stepL rfl ?_ | refine O_nil' ?_ | refine O_gT' rfl ?_ | refine O_gU' rfl ?_ | refine O_gF' rfl rfl ?_ | refine O_gEq rfl ?_ | refine O_gNe rfl ?_ | refine O_gS rfl (fun _ => ?_) (fun _ => ?_)) | ((with_reducible show VD _ _ _ _ _ _ _); first | refine D_step rfl ?_ | refine D_nil' ?_ | refine D_gT' rfl ?_ | refine D_gU' rfl ?_ | refine D_gF' rfl rfl ?_ | refine D_gS rfl (fun _ => ?_) (fun _ => ?_))
                rfl
            · have hl : lineR ⟨k, se, t, to, ke⟩ = ([], 250) := by simp [lineR, keepC, eqC, h6, hA, g4, g5, Ne.symm g5]
              rw [hl]
              refine call_V rfl rfl ?_
              repeat' first | ((with_reducible show V _ _ _ _ _ _); first | refine V_O rfl ?_ | refine V_cT rfl rfl ?_ | refine V_cF rfl rfl ?_ | refine V_cEq rfl rfl ?_ | refine V_cNe rfl rfl ?_ | refine V_cB rfl rfl (fun _ => ?_) (fun _ => ?_) | refine V_fA rfl rfl ?_ | refine V_fAN rfl rfl ?_ | refine V_D rfl ?_) | ((with_reducible show VO _ _ _ _ _ _ _); first | refine O_cA rfl rfl hw ?_ | refine O_cA rfl rfl ha ?_ | refine O_cA rfl rfl hen ?_ | refine O_is (dec_not h6) rfl ?_ | refine O_is (dec_not hW) rfl ?_ | refine O_is (ndec_is g4) rfl ?_ | refine O_is (ndec_not g5) rfl ?_ | refine O_step rfl ?_ | refine O_stepL rfl ?_ | refine O_nil' ?_ | refine O_gT' rfl ?_ | refine O_gU' rfl ?_ | refine O_gF' rfl rfl ?_ | refine O_gEq rfl ?_ | refine O_gNe rfl ?_ | refine O_gS rfl (fun _ => ?_) (fun _ => ?_)) | ((with_reducible show VD _ _ _ _ _ _ _); first | refine D_step rfl ?_ | refine D_nil' ?_ | refine D_gT' rfl ?_ | refine D_gU' rfl ?_ | refine D_gF' rfl rfl ?_ | refine D_gS rfl (fun _ => ?_) (fun _ => ?_))
              rfl
          · have hl : lineR ⟨k, se, t, to, ke⟩ = ([], 250) := by simp [lineR, keepC, eqC, h6, hA, g4, Ne.symm g4]
            rw [hl]
            refine call_V rfl rfl ?_
            repeat' first | ((with_reducible show V _ _ _ _ _ _); first | refine V_O rfl ?_ | refine V_cT rfl rfl ?_ | refine V_cF rfl rfl ?_ | refine V_cEq rfl rfl ?_ | refine V_cNe rfl rfl ?_ | refine V_cB rfl rfl (fun _ => ?_) (fun _ => ?_) | refine V_fA rfl rfl ?_ | refine V_fAN rfl rfl ?_ | refine V_D rfl ?_) | ((with_reducible show VO _ _ _ _ _ _ _); first | refine O_cA rfl rfl hw ?_ | refine O_cA rfl rfl ha ?_ | refine O_cA rfl rfl hen ?_ | refine O_is (dec_not h6) rfl ?_ | refine O_is (dec_not hW) rfl ?_ | refine O_is (ndec_not g4) rfl ?_ | refine O_step rfl ?_ | refine O_stepL rfl ?_ | refine O_nil' ?_ | refine O_gT' rfl ?_ | refine O_gU' rfl ?_ | refine O_gF' rfl rfl ?_ | refine O_gEq rfl ?_ | refine O_gNe rfl ?_ | refine O_gS rfl (fun _ => ?_) (fun _ => ?_)) | ((with_reducible show VD _ _ _ _ _ _ _); first | refine D_step rfl ?_ | refine D_nil' ?_ | refine D_gT' rfl ?_ | refine D_gU' rfl ?_ | refine D_gF' rfl rfl ?_ | refine D_gS rfl (fun _ => ?_) (fun _ => ?_))
            rfl
      | false =>
        rw [hA] at ha
        by_cases g2 : t = []
        · subst g2
          rw [decide_eq_false (by simp : (10 : UInt8) ∉ ([] : List UInt8))] at hen
          by_cases g4 : to = 0
          · by_cases g5 : ke = 0
            · have g6 : ¬ ke < 0 := by omega
              have hl : lineR ⟨k, se, [], to, ke⟩ = (wordL k ++ [32] ++ Lib.itoa se, 0) := by simp [lineR, lineC, keepC, eqC, h6, hA, hW, g4, g5]
              rw [hl]
              refine call_V rfl rfl ?_
              repeat' first | ((with_reducible show V _ _ _ _ _ _); first | refine V_O rfl ?_ | refine V_cT rfl rfl ?_ | refine V_cF rfl rfl ?_ | refine V_cEq rfl rfl ?_ | refine V_cNe rfl rfl ?_ | refine V_cB rfl rfl (fun _ => ?_) (fun _ => ?_) | refine V_fA rfl rfl ?_ | refine V_fAN rfl rfl ?_ | refine V_D rfl ?_) | ((with_reducible show VO _ _ _ _ _ _ _); first | refine O_cA rfl rfl hw ?_ | refine O_cA rfl rfl ha ?_ | refine O_cA rfl rfl hen ?_ | refine O_is (dec_not h6) rfl ?_ | refine O_is (dec_not hW) rfl ?_ | refine O_is (ndec_is g4) rfl ?_ | refine O_is (ndec_is g5) rfl ?_ | refine O_is (dec_not g6) rfl ?_ | refine O_cat c0 rfl rfl ?_ | refine O_cA rfl rfl t1 ?_ | refine O_cat d1 rfl rfl ?_ | refine O_step rfl ?_ | refine O_stepL rfl ?_ | refine O_nil' ?_ | refine O_gT' rfl ?_ | refine O_gU' rfl ?_ | refine O_gF' rfl rfl ?_ | refine O_gEq rfl ?_ | refine O_gNe rfl ?_ | refine O_gS rfl (fun _ => ?_) (fun _ => ?_)) | ((with_reducible show VD _ _ _ _ _ _ _); first | refine D_step rfl ?_ | refine D_nil' ?_ | refine D_gT' rfl ?_ | refine D_gU' rfl ?_ | refine D_gF' rfl rfl ?_ | refine D_gS rfl (fun _ => ?_) (fun _ => ?_))
              rfl
            · have hl : lineR ⟨k, se, [], to, ke⟩ = ([], 250) := by simp [lineR, keepC, eqC, h6, hA, g4, g5, Ne.symm g5]
              rw [hl]
              refine call_V rfl rfl ?_
              repeat' first | ((with_reducible show V _ _ _ _ _ _); first | refine V_O rfl ?_ | refine V_cT rfl rfl ?_ | refine V_cF rfl rfl ?_ | refine V_cEq rfl rfl ?_ | refine V_cNe rfl rfl ?_ | refine V_cB rfl rfl (fun _ => ?_) (fun _ => ?_) | refine V_fA rfl rfl ?_ | refine V_fAN rfl rfl ?_ | refine V_D rfl ?_) | ((with_reducible show VO _ _ _ _ _ _ _); first | refine O_cA rfl rfl hw ?_ | refine O_cA rfl rfl ha ?_ | refine O_cA rfl rfl hen ?_ | refine O_is (dec_not h6) rfl ?_ | refine O_is (dec_not hW) rfl ?_ | refine O_is (ndec_is g4) rfl ?_ | refine O_is (ndec_not g5) rfl ?_ | refine O_step rfl ?_ | refine O_stepL rfl ?_ | refine O_nil' ?_ | refine O_gT' rfl ?_ | refine O_gU' rfl ?_ | refine O_gF' rfl rfl ?_ | refine O_gEq rfl ?_ | refine O_gNe rfl ?_ | refine O_gS rfl (fun _ => ?_) (fun _ => ?_)) | ((with_reducible show VD _ _ _ _ _ _ _); first | refine D_step rfl ?_ | refine D_nil' ?_ | refine D_gT' rfl ?_ | refine D_gU' rfl ?_ | refine D_gF' rfl rfl ?_ | refine D_gS rfl (fun _ => ?_) (fun _ => ?_))
              rfl
          · have hl : lineR ⟨k, se, [], to, ke⟩ = ([], 250) := by simp [lineR, keepC, eqC, h6, hA, g4, Ne.symm g4]
            rw [hl]
            refine call_V rfl rfl ?_
            repeat' first | ((with_reducible show V _ _ _ _ _ _); first | refine V_O rfl ?_ | refine V_cT rfl rfl ?_ | refine V_cF rfl rfl ?_ | refine V_cEq rfl rfl ?_ | refine V_cNe rfl rfl ?_ | refine V_cB rfl rfl (fun _ => ?_) (fun _ => ?_) | refine V_fA rfl rfl ?_ | refine V_fAN rfl rfl ?_ | refine V_D rfl ?_) | ((with_reducible show VO _ _ _ _ _ _ _); first | refine O_cA rfl rfl hw ?_ | refine O_cA rfl rfl ha ?_ | refine O_cA rfl rfl hen ?_ | refine O_is (dec_not h6) rfl ?_ | refine O_is (dec_not hW) rfl ?_ | refine O_is (ndec_not g4) rfl ?_ | refine O_step rfl ?_ | refine O_stepL rfl ?_ | refine O_nil' ?_ | refine O_gT' rfl ?_ | refine O_gU' rfl ?_ | refine O_gF' rfl rfl ?_ | refine O_gEq rfl ?_ | refine O_gNe rfl ?_ | refine O_gS rfl (fun _ => ?_) (fun _ => ?_)) | ((with_reducible show VD _ _ _ _ _ _ _); first | refine D_step rfl ?_ | refine D_nil' ?_ | refine D_gT' rfl ?_ | refine D_gU' rfl ?_ | refine D_gF' rfl rfl ?_ | refine D_gS rfl (fun _ => ?_) (fun _ => ?_))
            rfl
        · have hl : lineR ⟨k, se, t, to, ke⟩ = ([], 250) := by simp [lineR, keepC, eqC, h6, hA, g2, Ne.symm g2]
          rw [hl]
          refine call_V rfl rfl ?_
          repeat' first | ((with_reducible show V _ _ _ _ _ _); first | refine V_O rfl ?_ | refine V_cT rfl rfl ?_ | refine V_cF rfl rfl ?_ | refine V_cEq rfl rfl ?_ | refine V_cNe rfl rfl ?_ | refine V_cB rfl rfl (fun _ => ?_) (fun _ => ?_) | refine V_fA rfl rfl ?_ | refine V_fAN rfl rfl ?_ | refine V_D rfl ?_) | ((with_reducible show VO _ _ _ _ _ _ _); first | refine O_cA rfl rfl hw ?_ | refine O_cA rfl rfl ha ?_ | refine O_cA rfl rfl hen ?_ | refine O_is (dec_not h6) rfl ?_ | refine O_is (dec_not hW) rfl ?_ | refine O_is (ndec_not g2) rfl ?_ | refine O_step rfl ?_ | refine O_stepL rfl ?_ | refine O_nil' ?_ | refine O_gT' rfl ?_ | refine O_gU' rfl ?_ | refine O_gF' rfl rfl ?_ | refine O_gEq rfl ?_ | refine O_gNe rfl ?_ | refine O_gS rfl (fun _ => ?_) (fun _ => ?_)) | ((with_reducible show VD _ _ _ _ _ _ _); first | refine D_step rfl ?_ | refine D_nil' ?_ | refine D_gT' rfl ?_ | refine D_gU' rfl ?_ | refine D_gF' rfl rfl ?_ | refine D_gS rfl (fun _ => ?_) (fun _ => ?_))
          rfl
end Go.Proofs.YtbeaalkfakjoiaaDoor

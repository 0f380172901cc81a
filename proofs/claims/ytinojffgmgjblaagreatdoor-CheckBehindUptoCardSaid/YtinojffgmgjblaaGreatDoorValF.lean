/- rambleref02.may, one step. -/
import Derived.Test.YtinojffgmgjblaaGreatDoorValE
import Derived.Test.YtinojffgmgjblaaGreatDoorAmZ
set_option linter.unusedVariables false
set_option linter.unusedSimpArgs false
namespace Go.Proofs.YtinojffgmgjblaaGreatDoor
open Go Go.AM Go.RowKit
set_option maxHeartbeats 4000000 in
theorem run_may2_step (f : Nat) (d : Int) (hd : d + f = 7 ∧ 0 ≤ d) (k n : Int) (s : List UInt8) (l : List Val) (p : PV) (hp : LC l p)
    (hall : T.R (.call n_rambleref02_all [p, .int .i64 d] (.bool (l.all (mayV f))))) (hri : T.R (.call n_rambleref02_rises [p] (.bool (risesV l)))) :
    T.R (.call n_rambleref02_may [.agg [.int .i64 k, .int .i64 n, .str s, p], .int .i64 d] (.bool (mayV (f + 1) (.mk k n s l)))) := by
  obtain ⟨lp1, lp2, lp3⟩ := hp.len
  have plp := hp.pl
  have hd8 : decide (8 ≤ d) = false := decide_eq_false (by omega)
  by_cases h1 : k = 1
  · subst h1
    have hm : mayV (f + 1) (.mk 1 n s l) = (decide (s = []) && decide ((l.length : Int) = 0)) := by simp [mayV]
    rw [hm]
    generalize l.all (mayV f) = a at hall ⊢
    generalize risesV l = r at hri ⊢
    refine call_V rfl rfl ?_
    repeat' first | refine O_stepL rfl ?_ | refine V_cH hd8 rfl rfl ?_ | refine O_lenO rfl lp1 lp2 ?_ | refine O_rem rfl rfl rfl ?_ | refine O_cA rfl rfl hall ?_ | refine O_cA rfl rfl hri ?_ | refine V_O rfl ?_ | refine O_step rfl ?_ | refine O_nil' ?_ | refine V_cT rfl rfl ?_ | refine V_cF rfl rfl ?_ | refine V_cEq rfl rfl ?_ | refine V_cNe rfl rfl ?_ | refine V_cB rfl rfl (fun _ => ?_) (fun _ => ?_) | refine O_gT' rfl ?_ | refine O_gU' rfl ?_ | refine O_gF' rfl rfl ?_ | refine O_gEq rfl ?_ | refine O_gNe rfl ?_ | refine O_gS rfl (fun _ => ?_) (fun _ => ?_) | refine V_fA rfl rfl ?_ | refine V_fAN rfl rfl ?_ | refine V_D rfl ?_ | refine D_step rfl ?_ | refine D_nil' ?_ | refine D_gT' rfl ?_ | refine D_gU' rfl ?_ | refine D_gF' rfl rfl ?_ | refine D_gS rfl (fun _ => ?_) (fun _ => ?_)
    all_goals (clear hall hri hm; simp only [*, Bool.true_and, Bool.and_true, Bool.false_and, Bool.and_false, Bool.true_or, Bool.or_true, Bool.false_or, Bool.or_false, Bool.not_true, Bool.not_false])
  by_cases h3 : k = 3
  · subst h3
    have hm : mayV (f + 1) (.mk 3 n s l) = (decide (s = []) && decide ((l.length : Int) = 0) && (decide (n = 0) || decide (n = 1))) := by simp [mayV]
    rw [hm]
    generalize l.all (mayV f) = a at hall ⊢
    generalize risesV l = r at hri ⊢
    refine call_V rfl rfl ?_
    repeat' first | refine O_stepL rfl ?_ | refine V_cH hd8 rfl rfl ?_ | refine O_lenO rfl lp1 lp2 ?_ | refine O_rem rfl rfl rfl ?_ | refine O_cA rfl rfl hall ?_ | refine O_cA rfl rfl hri ?_ | refine V_O rfl ?_ | refine O_step rfl ?_ | refine O_nil' ?_ | refine V_cT rfl rfl ?_ | refine V_cF rfl rfl ?_ | refine V_cEq rfl rfl ?_ | refine V_cNe rfl rfl ?_ | refine V_cB rfl rfl (fun _ => ?_) (fun _ => ?_) | refine O_gT' rfl ?_ | refine O_gU' rfl ?_ | refine O_gF' rfl rfl ?_ | refine O_gEq rfl ?_ | refine O_gNe rfl ?_ | refine O_gS rfl (fun _ => ?_) (fun _ => ?_) | refine V_fA rfl rfl ?_ | refine V_fAN rfl rfl ?_ | refine V_D rfl ?_ | refine D_step rfl ?_ | refine D_nil' ?_ | refine D_gT' rfl ?_ | refine D_gU' rfl ?_ | refine D_gF' rfl rfl ?_ | refine D_gS rfl (fun _ => ?_) (fun _ => ?_)
    all_goals (clear hall hri hm; simp only [*, Bool.true_and, Bool.and_true, Bool.false_and, Bool.and_false, Bool.true_or, Bool.or_true, Bool.false_or, Bool.or_false, Bool.not_true, Bool.not_false])
  by_cases h6 : k = 6
  · subst h6
    have hm : mayV (f + 1) (.mk 6 n s l) = (decide (s = []) && decide ((l.length : Int) = 0) && decide (1 ≤ n) && decide (n ≤ 281474976710656)) := by simp [mayV]
    rw [hm]
    generalize l.all (mayV f) = a at hall ⊢
    generalize risesV l = r at hri ⊢
    refine call_V rfl rfl ?_
    repeat' first | refine O_stepL rfl ?_ | refine V_cH hd8 rfl rfl ?_ | refine O_lenO rfl lp1 lp2 ?_ | refine O_rem rfl rfl rfl ?_ | refine O_cA rfl rfl hall ?_ | refine O_cA rfl rfl hri ?_ | refine V_O rfl ?_ | refine O_step rfl ?_ | refine O_nil' ?_ | refine V_cT rfl rfl ?_ | refine V_cF rfl rfl ?_ | refine V_cEq rfl rfl ?_ | refine V_cNe rfl rfl ?_ | refine V_cB rfl rfl (fun _ => ?_) (fun _ => ?_) | refine O_gT' rfl ?_ | refine O_gU' rfl ?_ | refine O_gF' rfl rfl ?_ | refine O_gEq rfl ?_ | refine O_gNe rfl ?_ | refine O_gS rfl (fun _ => ?_) (fun _ => ?_) | refine V_fA rfl rfl ?_ | refine V_fAN rfl rfl ?_ | refine V_D rfl ?_ | refine D_step rfl ?_ | refine D_nil' ?_ | refine D_gT' rfl ?_ | refine D_gU' rfl ?_ | refine D_gF' rfl rfl ?_ | refine D_gS rfl (fun _ => ?_) (fun _ => ?_)
    all_goals (clear hall hri hm; simp only [*, Bool.true_and, Bool.and_true, Bool.false_and, Bool.and_false, Bool.true_or, Bool.or_true, Bool.false_or, Bool.or_false, Bool.not_true, Bool.not_false])
  by_cases h7 : k = 7
  · subst h7
    have hm : mayV (f + 1) (.mk 7 n s l) = (decide (s = []) && decide ((l.length : Int) = 0) && decide (1 ≤ n) && decide (n ≤ 281474976710656)) := by simp [mayV]
    rw [hm]
    generalize l.all (mayV f) = a at hall ⊢
    generalize risesV l = r at hri ⊢
    refine call_V rfl rfl ?_
    repeat' first | refine O_stepL rfl ?_ | refine V_cH hd8 rfl rfl ?_ | refine O_lenO rfl lp1 lp2 ?_ | refine O_rem rfl rfl rfl ?_ | refine O_cA rfl rfl hall ?_ | refine O_cA rfl rfl hri ?_ | refine V_O rfl ?_ | refine O_step rfl ?_ | refine O_nil' ?_ | refine V_cT rfl rfl ?_ | refine V_cF rfl rfl ?_ | refine V_cEq rfl rfl ?_ | refine V_cNe rfl rfl ?_ | refine V_cB rfl rfl (fun _ => ?_) (fun _ => ?_) | refine O_gT' rfl ?_ | refine O_gU' rfl ?_ | refine O_gF' rfl rfl ?_ | refine O_gEq rfl ?_ | refine O_gNe rfl ?_ | refine O_gS rfl (fun _ => ?_) (fun _ => ?_) | refine V_fA rfl rfl ?_ | refine V_fAN rfl rfl ?_ | refine V_D rfl ?_ | refine D_step rfl ?_ | refine D_nil' ?_ | refine D_gT' rfl ?_ | refine D_gU' rfl ?_ | refine D_gF' rfl rfl ?_ | refine D_gS rfl (fun _ => ?_) (fun _ => ?_)
    all_goals (clear hall hri hm; simp only [*, Bool.true_and, Bool.and_true, Bool.false_and, Bool.and_false, Bool.true_or, Bool.or_true, Bool.false_or, Bool.or_false, Bool.not_true, Bool.not_false])
  by_cases h2 : k = 2
  · subst h2
    have hm : mayV (f + 1) (.mk 2 n s l) = (decide (n = 0) && decide ((l.length : Int) = 0) && decide ((s.length : Int) ≤ 128)) := by simp [mayV]
    rw [hm]
    generalize l.all (mayV f) = a at hall ⊢
    generalize risesV l = r at hri ⊢
    refine call_V rfl rfl ?_
    repeat' first | refine O_stepL rfl ?_ | refine V_cH hd8 rfl rfl ?_ | refine O_lenO rfl lp1 lp2 ?_ | refine O_rem rfl rfl rfl ?_ | refine O_cA rfl rfl hall ?_ | refine O_cA rfl rfl hri ?_ | refine V_O rfl ?_ | refine O_step rfl ?_ | refine O_nil' ?_ | refine V_cT rfl rfl ?_ | refine V_cF rfl rfl ?_ | refine V_cEq rfl rfl ?_ | refine V_cNe rfl rfl ?_ | refine V_cB rfl rfl (fun _ => ?_) (fun _ => ?_) | refine O_gT' rfl ?_ | refine O_gU' rfl ?_ | refine O_gF' rfl rfl ?_ | refine O_gEq rfl ?_ | refine O_gNe rfl ?_ | refine O_gS rfl (fun _ => ?_) (fun _ => ?_) | refine V_fA rfl rfl ?_ | refine V_fAN rfl rfl ?_ | refine V_D rfl ?_ | refine D_step rfl ?_ | refine D_nil' ?_ | refine D_gT' rfl ?_ | refine D_gU' rfl ?_ | refine D_gF' rfl rfl ?_ | refine D_gS rfl (fun _ => ?_) (fun _ => ?_)
    all_goals (clear hall hri hm; simp only [*, Bool.true_and, Bool.and_true, Bool.false_and, Bool.and_false, Bool.true_or, Bool.or_true, Bool.false_or, Bool.or_false, Bool.not_true, Bool.not_false])
  by_cases h4 : k = 4
  · subst h4
    have hm : mayV (f + 1) (.mk 4 n s l) = (decide (n = 0) && decide (s = []) && decide ((l.length : Int) ≤ 256) && l.all (mayV f)) := by simp [mayV]
    rw [hm]
    generalize l.all (mayV f) = a at hall ⊢
    generalize risesV l = r at hri ⊢
    refine call_V rfl rfl ?_
    repeat' first | refine O_stepL rfl ?_ | refine V_cH hd8 rfl rfl ?_ | refine O_lenO rfl lp1 lp2 ?_ | refine O_rem rfl rfl rfl ?_ | refine O_cA rfl rfl hall ?_ | refine O_cA rfl rfl hri ?_ | refine V_O rfl ?_ | refine O_step rfl ?_ | refine O_nil' ?_ | refine V_cT rfl rfl ?_ | refine V_cF rfl rfl ?_ | refine V_cEq rfl rfl ?_ | refine V_cNe rfl rfl ?_ | refine V_cB rfl rfl (fun _ => ?_) (fun _ => ?_) | refine O_gT' rfl ?_ | refine O_gU' rfl ?_ | refine O_gF' rfl rfl ?_ | refine O_gEq rfl ?_ | refine O_gNe rfl ?_ | refine O_gS rfl (fun _ => ?_) (fun _ => ?_) | refine V_fA rfl rfl ?_ | refine V_fAN rfl rfl ?_ | refine V_D rfl ?_ | refine D_step rfl ?_ | refine D_nil' ?_ | refine D_gT' rfl ?_ | refine D_gU' rfl ?_ | refine D_gF' rfl rfl ?_ | refine D_gS rfl (fun _ => ?_) (fun _ => ?_)
    all_goals (clear hall hri hm; simp only [*, Bool.true_and, Bool.and_true, Bool.false_and, Bool.and_false, Bool.true_or, Bool.or_true, Bool.false_or, Bool.or_false, Bool.not_true, Bool.not_false])
  by_cases h5 : k = 5
  · subst h5
    have hm : mayV (f + 1) (.mk 5 n s l) = (decide (n = 0) && decide (s = []) && decide ((l.length : Int) ≤ 512) && decide ((l.length : Int).tmod 2 = 0) && l.all (mayV f) && risesV l) := by simp [mayV]
    rw [hm]
    generalize l.all (mayV f) = a at hall ⊢
    generalize risesV l = r at hri ⊢
    refine call_V rfl rfl ?_
    repeat' first | refine O_stepL rfl ?_ | refine V_cH hd8 rfl rfl ?_ | refine O_lenO rfl lp1 lp2 ?_ | refine O_rem rfl rfl rfl ?_ | refine O_cA rfl rfl hall ?_ | refine O_cA rfl rfl hri ?_ | refine V_O rfl ?_ | refine O_step rfl ?_ | refine O_nil' ?_ | refine V_cT rfl rfl ?_ | refine V_cF rfl rfl ?_ | refine V_cEq rfl rfl ?_ | refine V_cNe rfl rfl ?_ | refine V_cB rfl rfl (fun _ => ?_) (fun _ => ?_) | refine O_gT' rfl ?_ | refine O_gU' rfl ?_ | refine O_gF' rfl rfl ?_ | refine O_gEq rfl ?_ | refine O_gNe rfl ?_ | refine O_gS rfl (fun _ => ?_) (fun _ => ?_) | refine V_fA rfl rfl ?_ | refine V_fAN rfl rfl ?_ | refine V_D rfl ?_ | refine D_step rfl ?_ | refine D_nil' ?_ | refine D_gT' rfl ?_ | refine D_gU' rfl ?_ | refine D_gF' rfl rfl ?_ | refine D_gS rfl (fun _ => ?_) (fun _ => ?_)
    all_goals (clear hall hri hm; simp only [*, Bool.true_and, Bool.and_true, Bool.false_and, Bool.and_false, Bool.true_or, Bool.or_true, Bool.false_or, Bool.or_false, Bool.not_true, Bool.not_false])
  · have hm : mayV (f + 1) (.mk k n s l) = false := by simp [mayV, *]
    rw [hm]
    refine call_V rfl rfl ?_
    repeat' first | refine O_stepL rfl ?_ | refine V_cH hd8 rfl rfl ?_ | refine V_cH (decide_eq_false h1) rfl rfl ?_ | refine V_cH (decide_eq_false h3) rfl rfl ?_ | refine V_cH (decide_eq_false h6) rfl rfl ?_ | refine V_cH (decide_eq_false h7) rfl rfl ?_ | refine V_cH (decide_eq_false h2) rfl rfl ?_ | refine V_cH (decide_eq_false h4) rfl rfl ?_ | refine V_cH (decide_eq_false h5) rfl rfl ?_ | refine V_O rfl ?_ | refine O_step rfl ?_ | refine O_nil' ?_ | refine V_cT rfl rfl ?_ | refine V_cF rfl rfl ?_ | refine V_cEq rfl rfl ?_ | refine V_cNe rfl rfl ?_ | refine V_cB rfl rfl (fun _ => ?_) (fun _ => ?_) | refine O_gT' rfl ?_ | refine O_gU' rfl ?_ | refine O_gF' rfl rfl ?_ | refine O_gEq rfl ?_ | refine O_gNe rfl ?_ | refine O_gS rfl (fun _ => ?_) (fun _ => ?_) | refine V_fA rfl rfl ?_ | refine V_fAN rfl rfl ?_ | refine V_D rfl ?_ | refine D_step rfl ?_ | refine D_nil' ?_ | refine D_gT' rfl ?_ | refine D_gU' rfl ?_ | refine D_gF' rfl rfl ?_ | refine D_gS rfl (fun _ => ?_) (fun _ => ?_)
    all_goals rfl
end Go.Proofs.YtinojffgmgjblaaGreatDoor

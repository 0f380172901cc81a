/- value.may, one step. -/
import Derived.Test.YtinojffgmgjblaaGreatDoorValG
import Derived.Test.YtinojffgmgjblaaGreatDoorAmZ
set_option linter.unusedVariables false
set_option linter.unusedSimpArgs false
namespace Go.Proofs.YtinojffgmgjblaaGreatDoor
open Go Go.AM Go.RowKit
set_option maxHeartbeats 4000000 in
theorem run_may_step (f : Nat) (d : Int) (hd : d + f = 8 ∧ 0 ≤ d) (k n : Int) (s : List UInt8) (l : List Val) (p : PV) (hp : LC l p)
    (hall : T.R (.call n_slices_ContainsFunc_api_Value [p, .func n_value_may_1 [.iptr [.int .i64 d] 0]] (.bool (!l.all (mayV f))))) :
    T.R (.call n_value_may [.agg [.int .i64 k, .int .i64 n, .str s, p], .int .i64 d] (.bool (mayV (f + 1) (.mk k n s l)))) := by
  obtain ⟨lp1, lp2, lp3⟩ := hp.len
  have plp := hp.pl
  have hl := fun e h0 h1 h2 => rise_loop k n d s l p hp l.length l [] e (Nat.le_refl _) rfl rfl (by cases l <;> simp) h0 h1 h2
  have hvl : ViewL true (stM [.int .i64 k, .int .i64 n, .str s, p] d).get [p, .func n_value_may_1 [.ptr 1 0]] [p, .func n_value_may_1 [.iptr [.int .i64 d] 0]] :=
    viewL_cons plp.view (viewL_cons (view_func (viewL_cons (view_ptr rfl (pl_cons (.int _ _) pl_nil)) viewL_nil)) viewL_nil)
  have hd8 : decide (8 < d) = false := decide_eq_false (by omega)
  have e256 : decide ((l.length : Int) ≤ 256) = !decide (256 < (l.length : Int)) := by by_cases h : 256 < (l.length : Int) <;> simp [h] <;> omega
  have e512 : decide ((l.length : Int) ≤ 512) = !decide (512 < (l.length : Int)) := by by_cases h : 512 < (l.length : Int) <;> simp [h] <;> omega
  have epar : decide ((l.length : Int).tmod 2 = 0) = !decide ((l.length : Int).tmod 2 = 1) := by
    rw [Int.tmod_eq_emod_of_nonneg (by omega)]
    by_cases h : (l.length : Int) % 2 = 1 <;> simp [h] <;> omega
  by_cases h1 : k = 1
  · subst h1
    clear hl
    have hm : mayV (f + 1) (.mk 1 n s l) = (decide (s = []) && decide ((l.length : Int) = 0)) := by simp [mayV]
    rw [hm]
    generalize l.all (mayV f) = a at hall ⊢
    refine call_V rfl rfl ?_
    repeat' first | refine O_stepL rfl ?_ | refine V_cH hd8 rfl rfl ?_ | refine O_lenO rfl lp1 lp2 ?_ | refine O_rem rfl rfl rfl ?_ | refine O_callSP rfl rfl hvl rfl hall ?_ | refine V_O rfl ?_ | refine O_step rfl ?_ | refine O_nil' ?_ | refine V_cT rfl rfl ?_ | refine V_cF rfl rfl ?_ | refine V_cEq rfl rfl ?_ | refine V_cNe rfl rfl ?_ | refine V_cB rfl rfl (fun _ => ?_) (fun _ => ?_) | refine O_gT' rfl ?_ | refine O_gU' rfl ?_ | refine O_gF' rfl rfl ?_ | refine O_gEq rfl ?_ | refine O_gNe rfl ?_ | refine O_gS rfl (fun _ => ?_) (fun _ => ?_) | refine V_fA rfl rfl ?_ | refine V_fAN rfl rfl ?_ | refine V_D rfl ?_ | refine D_step rfl ?_ | refine D_nil' ?_ | refine D_gT' rfl ?_ | refine D_gU' rfl ?_ | refine D_gF' rfl rfl ?_ | refine D_gS rfl (fun _ => ?_) (fun _ => ?_)
    all_goals clear hall hvl hm e256 e512 epar
    all_goals first | (simp only [*, Bool.true_and, Bool.and_true, Bool.false_and, Bool.and_false, Bool.true_or, Bool.or_true, Bool.false_or, Bool.or_false, Bool.not_true, Bool.not_false, Bool.not_not]; done) | (exfalso; simp_all; done)
  by_cases h3 : k = 3
  · subst h3
    clear hl
    have hm : mayV (f + 1) (.mk 3 n s l) = (decide (s = []) && decide ((l.length : Int) = 0) && (decide (n = 0) || decide (n = 1))) := by simp [mayV]
    rw [hm]
    generalize l.all (mayV f) = a at hall ⊢
    refine call_V rfl rfl ?_
    repeat' first | refine O_stepL rfl ?_ | refine V_cH hd8 rfl rfl ?_ | refine O_lenO rfl lp1 lp2 ?_ | refine O_rem rfl rfl rfl ?_ | refine O_callSP rfl rfl hvl rfl hall ?_ | refine V_O rfl ?_ | refine O_step rfl ?_ | refine O_nil' ?_ | refine V_cT rfl rfl ?_ | refine V_cF rfl rfl ?_ | refine V_cEq rfl rfl ?_ | refine V_cNe rfl rfl ?_ | refine V_cB rfl rfl (fun _ => ?_) (fun _ => ?_) | refine O_gT' rfl ?_ | refine O_gU' rfl ?_ | refine O_gF' rfl rfl ?_ | refine O_gEq rfl ?_ | refine O_gNe rfl ?_ | refine O_gS rfl (fun _ => ?_) (fun _ => ?_) | refine V_fA rfl rfl ?_ | refine V_fAN rfl rfl ?_ | refine V_D rfl ?_ | refine D_step rfl ?_ | refine D_nil' ?_ | refine D_gT' rfl ?_ | refine D_gU' rfl ?_ | refine D_gF' rfl rfl ?_ | refine D_gS rfl (fun _ => ?_) (fun _ => ?_)
    all_goals clear hall hvl hm e256 e512 epar
    all_goals first | (simp only [*, Bool.true_and, Bool.and_true, Bool.false_and, Bool.and_false, Bool.true_or, Bool.or_true, Bool.false_or, Bool.or_false, Bool.not_true, Bool.not_false, Bool.not_not]; done) | (exfalso; simp_all; done)
  by_cases h6 : k = 6
  · subst h6
    clear hl
    have hm : mayV (f + 1) (.mk 6 n s l) = (decide (s = []) && decide ((l.length : Int) = 0) && decide (1 ≤ n) && decide (n ≤ 281474976710656)) := by simp [mayV]
    rw [hm]
    generalize l.all (mayV f) = a at hall ⊢
    refine call_V rfl rfl ?_
    repeat' first | refine O_stepL rfl ?_ | refine V_cH hd8 rfl rfl ?_ | refine O_lenO rfl lp1 lp2 ?_ | refine O_rem rfl rfl rfl ?_ | refine O_callSP rfl rfl hvl rfl hall ?_ | refine V_O rfl ?_ | refine O_step rfl ?_ | refine O_nil' ?_ | refine V_cT rfl rfl ?_ | refine V_cF rfl rfl ?_ | refine V_cEq rfl rfl ?_ | refine V_cNe rfl rfl ?_ | refine V_cB rfl rfl (fun _ => ?_) (fun _ => ?_) | refine O_gT' rfl ?_ | refine O_gU' rfl ?_ | refine O_gF' rfl rfl ?_ | refine O_gEq rfl ?_ | refine O_gNe rfl ?_ | refine O_gS rfl (fun _ => ?_) (fun _ => ?_) | refine V_fA rfl rfl ?_ | refine V_fAN rfl rfl ?_ | refine V_D rfl ?_ | refine D_step rfl ?_ | refine D_nil' ?_ | refine D_gT' rfl ?_ | refine D_gU' rfl ?_ | refine D_gF' rfl rfl ?_ | refine D_gS rfl (fun _ => ?_) (fun _ => ?_)
    all_goals clear hall hvl hm e256 e512 epar
    all_goals first | (simp only [*, Bool.true_and, Bool.and_true, Bool.false_and, Bool.and_false, Bool.true_or, Bool.or_true, Bool.false_or, Bool.or_false, Bool.not_true, Bool.not_false, Bool.not_not]; done) | (exfalso; simp_all; done)
  by_cases h7 : k = 7
  · subst h7
    clear hl
    have hm : mayV (f + 1) (.mk 7 n s l) = (decide (s = []) && decide ((l.length : Int) = 0) && decide (1 ≤ n) && decide (n ≤ 281474976710656)) := by simp [mayV]
    rw [hm]
    generalize l.all (mayV f) = a at hall ⊢
    refine call_V rfl rfl ?_
    repeat' first | refine O_stepL rfl ?_ | refine V_cH hd8 rfl rfl ?_ | refine O_lenO rfl lp1 lp2 ?_ | refine O_rem rfl rfl rfl ?_ | refine O_callSP rfl rfl hvl rfl hall ?_ | refine V_O rfl ?_ | refine O_step rfl ?_ | refine O_nil' ?_ | refine V_cT rfl rfl ?_ | refine V_cF rfl rfl ?_ | refine V_cEq rfl rfl ?_ | refine V_cNe rfl rfl ?_ | refine V_cB rfl rfl (fun _ => ?_) (fun _ => ?_) | refine O_gT' rfl ?_ | refine O_gU' rfl ?_ | refine O_gF' rfl rfl ?_ | refine O_gEq rfl ?_ | refine O_gNe rfl ?_ | refine O_gS rfl (fun _ => ?_) (fun _ => ?_) | refine V_fA rfl rfl ?_ | refine V_fAN rfl rfl ?_ | refine V_D rfl ?_ | refine D_step rfl ?_ | refine D_nil' ?_ | refine D_gT' rfl ?_ | refine D_gU' rfl ?_ | refine D_gF' rfl rfl ?_ | refine D_gS rfl (fun _ => ?_) (fun _ => ?_)
    all_goals clear hall hvl hm e256 e512 epar
    all_goals first | (simp only [*, Bool.true_and, Bool.and_true, Bool.false_and, Bool.and_false, Bool.true_or, Bool.or_true, Bool.false_or, Bool.or_false, Bool.not_true, Bool.not_false, Bool.not_not]; done) | (exfalso; simp_all; done)
  by_cases h2 : k = 2
  · subst h2
    clear hl
    have hm : mayV (f + 1) (.mk 2 n s l) = (decide (n = 0) && decide ((l.length : Int) = 0) && decide ((s.length : Int) ≤ 128)) := by simp [mayV]
    rw [hm]
    generalize l.all (mayV f) = a at hall ⊢
    refine call_V rfl rfl ?_
    repeat' first | refine O_stepL rfl ?_ | refine V_cH hd8 rfl rfl ?_ | refine O_lenO rfl lp1 lp2 ?_ | refine O_rem rfl rfl rfl ?_ | refine O_callSP rfl rfl hvl rfl hall ?_ | refine V_O rfl ?_ | refine O_step rfl ?_ | refine O_nil' ?_ | refine V_cT rfl rfl ?_ | refine V_cF rfl rfl ?_ | refine V_cEq rfl rfl ?_ | refine V_cNe rfl rfl ?_ | refine V_cB rfl rfl (fun _ => ?_) (fun _ => ?_) | refine O_gT' rfl ?_ | refine O_gU' rfl ?_ | refine O_gF' rfl rfl ?_ | refine O_gEq rfl ?_ | refine O_gNe rfl ?_ | refine O_gS rfl (fun _ => ?_) (fun _ => ?_) | refine V_fA rfl rfl ?_ | refine V_fAN rfl rfl ?_ | refine V_D rfl ?_ | refine D_step rfl ?_ | refine D_nil' ?_ | refine D_gT' rfl ?_ | refine D_gU' rfl ?_ | refine D_gF' rfl rfl ?_ | refine D_gS rfl (fun _ => ?_) (fun _ => ?_)
    all_goals clear hall hvl hm e256 e512 epar
    all_goals first | (simp only [*, Bool.true_and, Bool.and_true, Bool.false_and, Bool.and_false, Bool.true_or, Bool.or_true, Bool.false_or, Bool.or_false, Bool.not_true, Bool.not_false, Bool.not_not]; done) | (exfalso; simp_all; done)
  by_cases h4 : k = 4
  · subst h4
    clear hl
    have hm : mayV (f + 1) (.mk 4 n s l) = (decide (n = 0) && decide (s = []) && decide ((l.length : Int) ≤ 256) && l.all (mayV f)) := by simp [mayV]
    rw [hm]
    rw [e256]
    generalize l.all (mayV f) = a at hall ⊢
    refine call_V rfl rfl ?_
    repeat' first | refine O_stepL rfl ?_ | refine V_cH hd8 rfl rfl ?_ | refine O_lenO rfl lp1 lp2 ?_ | refine O_rem rfl rfl rfl ?_ | refine O_callSP rfl rfl hvl rfl hall ?_ | refine V_O rfl ?_ | refine O_step rfl ?_ | refine O_nil' ?_ | refine V_cT rfl rfl ?_ | refine V_cF rfl rfl ?_ | refine V_cEq rfl rfl ?_ | refine V_cNe rfl rfl ?_ | refine V_cB rfl rfl (fun _ => ?_) (fun _ => ?_) | refine O_gT' rfl ?_ | refine O_gU' rfl ?_ | refine O_gF' rfl rfl ?_ | refine O_gEq rfl ?_ | refine O_gNe rfl ?_ | refine O_gS rfl (fun _ => ?_) (fun _ => ?_) | refine V_fA rfl rfl ?_ | refine V_fAN rfl rfl ?_ | refine V_D rfl ?_ | refine D_step rfl ?_ | refine D_nil' ?_ | refine D_gT' rfl ?_ | refine D_gU' rfl ?_ | refine D_gF' rfl rfl ?_ | refine D_gS rfl (fun _ => ?_) (fun _ => ?_)
    all_goals clear hall hvl hm e256 e512 epar
    all_goals first | (simp only [*, Bool.true_and, Bool.and_true, Bool.false_and, Bool.and_false, Bool.true_or, Bool.or_true, Bool.false_or, Bool.or_false, Bool.not_true, Bool.not_false, Bool.not_not]; done) | (exfalso; simp_all; done)
  by_cases h5 : k = 5
  · subst h5
    have hm : mayV (f + 1) (.mk 5 n s l) = (decide (n = 0) && decide (s = []) && decide ((l.length : Int) ≤ 512) && decide ((l.length : Int).tmod 2 = 0) && l.all (mayV f) && risesV l) := by simp [mayV]
    rw [hm, e512, epar]
    generalize l.all (mayV f) = a at hall ⊢
    generalize hrr : risesV l = r
    refine call_V rfl rfl ?_
    repeat' first | refine O_stepL rfl ?_ | refine V_cH hd8 rfl rfl ?_ | refine O_lenO rfl lp1 lp2 ?_ | refine O_rem rfl rfl rfl ?_ | refine V_cutA rfl (hl _ rfl rfl rfl) ?_ | refine O_callSP rfl rfl hvl rfl hall ?_ | refine V_O rfl ?_ | refine O_step rfl ?_ | refine O_nil' ?_ | refine V_cT rfl rfl ?_ | refine V_cF rfl rfl ?_ | refine V_cEq rfl rfl ?_ | refine V_cNe rfl rfl ?_ | refine V_cB rfl rfl (fun _ => ?_) (fun _ => ?_) | refine O_gT' rfl ?_ | refine O_gU' rfl ?_ | refine O_gF' rfl rfl ?_ | refine O_gEq rfl ?_ | refine O_gNe rfl ?_ | refine O_gS rfl (fun _ => ?_) (fun _ => ?_) | refine V_fA rfl rfl ?_ | refine V_fAN rfl rfl ?_ | refine V_D rfl ?_ | refine D_step rfl ?_ | refine D_nil' ?_ | refine D_gT' rfl ?_ | refine D_gU' rfl ?_ | refine D_gF' rfl rfl ?_ | refine D_gS rfl (fun _ => ?_) (fun _ => ?_)
    all_goals clear hl hm e256 e512 epar
    all_goals try (rintro x e' st' ⟨rfl, ⟨rfl, rfl, hrv⟩ | ⟨rfl, rfl, hrv⟩⟩; all_goals rw [hrr] at hrv)
    all_goals repeat' first | refine O_lenO rfl lp1 lp2 ?_ | refine O_callSP rfl rfl hvl rfl hall ?_ | refine V_O rfl ?_ | refine O_step rfl ?_ | refine O_nil' ?_ | refine V_cT rfl rfl ?_ | refine V_cF rfl rfl ?_ | refine V_cEq rfl rfl ?_ | refine V_cNe rfl rfl ?_ | refine V_cB rfl rfl (fun _ => ?_) (fun _ => ?_) | refine O_gT' rfl ?_ | refine O_gU' rfl ?_ | refine O_gF' rfl rfl ?_ | refine O_gEq rfl ?_ | refine O_gNe rfl ?_ | refine O_gS rfl (fun _ => ?_) (fun _ => ?_) | refine V_fA rfl rfl ?_ | refine V_fAN rfl rfl ?_ | refine V_D rfl ?_ | refine D_step rfl ?_ | refine D_nil' ?_ | refine D_gT' rfl ?_ | refine D_gU' rfl ?_ | refine D_gF' rfl rfl ?_ | refine D_gS rfl (fun _ => ?_) (fun _ => ?_)
    all_goals clear hall hvl
    all_goals first | (simp only [*, Bool.true_and, Bool.and_true, Bool.false_and, Bool.and_false, Bool.true_or, Bool.or_true, Bool.false_or, Bool.or_false, Bool.not_true, Bool.not_false, Bool.not_not]; done) | (exfalso; simp_all; done)
  · clear hl
    have hm : mayV (f + 1) (.mk k n s l) = false := by simp [mayV, *]
    rw [hm]
    refine call_V rfl rfl ?_
    repeat' first | refine O_stepL rfl ?_ | refine V_cH hd8 rfl rfl ?_ | refine O_lenO rfl lp1 lp2 ?_ | refine V_cH (decide_eq_false h1) rfl rfl ?_ | refine V_cH (decide_eq_false h3) rfl rfl ?_ | refine V_cH (decide_eq_false h6) rfl rfl ?_ | refine V_cH (decide_eq_false h7) rfl rfl ?_ | refine V_cH (decide_eq_false h2) rfl rfl ?_ | refine V_cH (decide_eq_false h4) rfl rfl ?_ | refine V_cH (decide_eq_false h5) rfl rfl ?_ | refine V_O rfl ?_ | refine O_step rfl ?_ | refine O_nil' ?_ | refine V_cT rfl rfl ?_ | refine V_cF rfl rfl ?_ | refine V_cEq rfl rfl ?_ | refine V_cNe rfl rfl ?_ | refine V_cB rfl rfl (fun _ => ?_) (fun _ => ?_) | refine O_gT' rfl ?_ | refine O_gU' rfl ?_ | refine O_gF' rfl rfl ?_ | refine O_gEq rfl ?_ | refine O_gNe rfl ?_ | refine O_gS rfl (fun _ => ?_) (fun _ => ?_) | refine V_fA rfl rfl ?_ | refine V_fAN rfl rfl ?_ | refine V_D rfl ?_ | refine D_step rfl ?_ | refine D_nil' ?_ | refine D_gT' rfl ?_ | refine D_gU' rfl ?_ | refine D_gF' rfl rfl ?_ | refine D_gS rfl (fun _ => ?_) (fun _ => ?_)
    all_goals rfl
end Go.Proofs.YtinojffgmgjblaaGreatDoor

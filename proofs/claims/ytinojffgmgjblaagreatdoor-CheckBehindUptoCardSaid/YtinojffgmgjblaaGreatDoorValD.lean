/- How two values stand: value.Compare. -/
import Derived.Test.YtinojffgmgjblaaGreatDoorValC
set_option linter.unusedVariables false
set_option linter.unusedSimpArgs false
namespace Go.Proofs.YtinojffgmgjblaaGreatDoor
open Go Go.AM Go.RowKit
def cmpF (p q : PV) (la lb : List Val) : EX → EC → St → Prop := fun x e' st' => (x = .exit 0 ∧ st' = emptySt ∧ e' = .put 0 p (.put 1 q .nil) ∧ cmpVs la lb = if la.length < lb.length then -1 else 0) ∨ (x = .ret ∧ e' = .put 6 (.int .i64 (cmpVs la lb)) .nil)
theorem cmpf_loop (la lb : List Val) (p q : PV) (hp : LC la p) (hq : LC lb q)
    (ih : ∀ (j : Nat) (v : Val) (cs : List PV), la[j]? = some v → At 4 p j cs → ∀ (w : Val) (ds : List PV), VC w ds → T.R (.call n_value_Compare [.agg cs, .agg ds] (.int .i64 (cmpV v w)))) :
    ∀ (ra rb pre : List Val) (e : EC), la = pre ++ ra → lb = pre ++ rb → e.get 0 = some p → e.get 1 = some q → e.get 2 = some (.func n_value_Compare []) → e.get 11 = some p → e.get 12 = some (.int .i64 la.length) → e.get 13 = some (.int .i64 pre.length) →
    V T (PE (cmpF p q la lb)) [.code (.loop lp_slices_CompareFunc_api_Value_0)] .normal e emptySt := by
  obtain ⟨lp1, lp2, lp3⟩ := hp.len
  obtain ⟨lq1, lq2, lq3⟩ := hq.len
  intro ra
  induction ra with
  | nil =>
    intro rb pre e ha hb h0 h1 h2 h11 h12 h13
    refine V_less (.put 0 p (.put 1 q (.put 2 (.func n_value_Compare []) (.put 11 p (.put 12 (.int .i64 la.length) (.put 13 (.int .i64 pre.length) .nil)))))) (less_put h0 (less_put h1 (less_put h2 (less_put h11 (less_put h12 (less_put h13 less_nil)))))) (V_unroll ?_)
    have hc : cmpVs la lb = if la.length < lb.length then -1 else 0 := by
      rw [ha, hb, cmpVs_pre]
      cases rb with
      | nil => simp [cmpVs]
      | cons z rb => rw [if_pos (by simp)]; rfl
    have out : ∀ (fr : List Fr) (x : EX) (e' : EC), adv 200 fr x = ([], .exit 0) → e'.get 0 = some p → e'.get 1 = some q → V T (PE (cmpF p q la lb)) fr x e' emptySt := fun fr x e' hadv g0 g1 =>
      V_less (.put 0 p (.put 1 q .nil)) (less_put g0 (less_put g1 less_nil)) (V_endP hadv (.inl ⟨rfl, rfl, rfl, hc⟩))
    repeat' first | refine out _ _ _ rfl rfl rfl | refine V_O rfl ?_ | refine O_step rfl ?_ | refine O_nil' ?_ | refine V_cT rfl rfl ?_ | refine V_cF rfl rfl ?_ | refine V_cEq rfl rfl ?_ | refine V_cNe rfl rfl ?_ | refine V_cB rfl rfl (fun _ => ?_) (fun _ => ?_) | refine O_gT' rfl ?_ | refine O_gU' rfl ?_ | refine O_gF' rfl rfl ?_ | refine O_gEq rfl ?_ | refine O_gNe rfl ?_ | refine O_gS rfl (fun _ => ?_) (fun _ => ?_) | refine V_fA rfl rfl ?_ | refine V_fAN rfl rfl ?_ | refine V_D rfl ?_ | refine D_step rfl ?_ | refine D_nil' ?_ | refine D_gT' rfl ?_ | refine D_gU' rfl ?_ | refine D_gF' rfl rfl ?_ | refine D_gS rfl (fun _ => ?_) (fun _ => ?_)
    all_goals (exfalso; subst ha; simp at *)
  | cons y ra ihr =>
    intro rb pre e ha hb h0 h1 h2 h11 h12 h13
    refine V_less (.put 0 p (.put 1 q (.put 2 (.func n_value_Compare []) (.put 11 p (.put 12 (.int .i64 la.length) (.put 13 (.int .i64 pre.length) .nil)))))) (less_put h0 (less_put h1 (less_put h2 (less_put h11 (less_put h12 (less_put h13 less_nil)))))) (V_unroll ?_)
    have hy : la[pre.length]? = some y := by subst ha; simp
    obtain ⟨cy, ay, vy⟩ := hp.at hy
    have hih := ih _ y cy hy ay
    obtain ⟨ky, ny, sy, ly⟩ := y
    obtain ⟨hk1, hn1, hs1, py, rfl, hpy⟩ := vy.open
    have ply := hpy.pl
    have ret : ∀ (fr : List Fr) (x : EX) (e' : EC) (st' : St) (r : Int), adv 200 fr x = ([], .ret) → e'.get 6 = some (.int .i64 r) → r = cmpVs la lb → V T (PE (cmpF p q la lb)) fr x e' st' := fun fr x e' st' r hadv g0 hr => by
      subst hr
      exact V_less (.put 6 _ .nil) (less_put g0 less_nil) (V_endP hadv (.inr ⟨rfl, rfl⟩))
    cases rb with
    | nil =>
      have hc : 1 = cmpVs la lb := by rw [ha, hb, cmpVs_pre]; rfl
      repeat' first | refine O_stepL rfl ?_ | refine O_storeV rfl rfl vy.one rfl rfl rfl ?_ | refine O_at rfl rfl ay ?_ | refine O_lenO rfl lq1 lq2 ?_ | refine ret _ _ _ _ 1 rfl rfl hc | refine V_O rfl ?_ | refine O_step rfl ?_ | refine O_nil' ?_ | refine V_cT rfl rfl ?_ | refine V_cF rfl rfl ?_ | refine V_cEq rfl rfl ?_ | refine V_cNe rfl rfl ?_ | refine V_cB rfl rfl (fun _ => ?_) (fun _ => ?_) | refine O_gT' rfl ?_ | refine O_gU' rfl ?_ | refine O_gF' rfl rfl ?_ | refine O_gEq rfl ?_ | refine O_gNe rfl ?_ | refine O_gS rfl (fun _ => ?_) (fun _ => ?_) | refine V_fA rfl rfl ?_ | refine V_fAN rfl rfl ?_ | refine V_D rfl ?_ | refine D_step rfl ?_ | refine D_nil' ?_ | refine D_gT' rfl ?_ | refine D_gU' rfl ?_ | refine D_gF' rfl rfl ?_ | refine D_gS rfl (fun _ => ?_) (fun _ => ?_)
      all_goals (exfalso; clear ret hih ihr ih hc; subst ha hb; simp at *; try omega)
    | cons z rb =>
      have hz : lb[pre.length]? = some z := by subst hb; simp
      obtain ⟨cz, az, vz⟩ := hq.at hz
      have hcall := hih z cz vz
      have hcm : cmpVs la lb = orI (cmpV (.mk ky ny sy ly) z) (cmpVs ra rb) := by rw [ha, hb, cmpVs_pre]; rfl
      have hz0 : cmpV (.mk ky ny sy ly) z = 0 → (.mk ky ny sy ly) = z := cmpV_zero.1
      generalize hr : cmpV (.mk ky ny sy ly) z = r at hcall hcm hz0
      obtain ⟨kz, nz, sz, lz⟩ := z
      obtain ⟨hk2, hn2, hs2, pz, rfl, hpz⟩ := vz.open
      have plz := hpz.pl
      by_cases hyz : r = 0
      · have hyz' := hz0 hyz
        have fin : ∀ (fr : List Fr) (x : EX) (e' : EC) (st' : St), adv 200 fr x = ([.code (.loop lp_slices_CompareFunc_api_Value_0)], .normal) → e'.get 0 = some p → e'.get 1 = some q → e'.get 2 = some (.func n_value_Compare []) → e'.get 11 = some p → e'.get 12 = some (.int .i64 la.length) → e'.get 13 = some (.int .i64 (IntKind.i64.wrap (pre.length + 1))) → st'.base = 0 → V T (PE (cmpF p q la lb)) fr x e' st' := fun fr x e' st' hadv g0 g1 g2 g11 g12 g13 hb0 => V_adv hadv (by
          have hlt : pre.length < la.length := by subst ha; simp
          have hw : IntKind.i64.wrap (pre.length + 1) = ((pre ++ [Val.mk ky ny sy ly]).length : Int) := by rw [wrap_i64]; simp; omega
          rw [hw] at g13
          have := V_forgetAll (st := st') [(0, p), (1, q), (2, .func n_value_Compare []), (11, p), (12, .int .i64 la.length), (13, .int .i64 ((pre ++ [Val.mk ky ny sy ly]).length : Int))]
            (fg_cons g0 hp.pl.bel (fg_cons g1 hq.pl.bel (fg_cons g2 (.func _ _ (by simp)) (fg_cons g11 hp.pl.bel (fg_cons g12 (.int _ _) (fg_cons g13 (.int _ _) fg_nil)))))) (by omega)
            (T := T) (Q := PE (cmpF p q la lb)) (c := .loop lp_slices_CompareFunc_api_Value_0) (k := [])
          rw [hb0] at this
          exact this (ihr rb (pre ++ [Val.mk ky ny sy ly]) _ (by rw [ha]; simp) (by rw [hb, hyz']; simp) rfl rfl rfl rfl rfl rfl))
        subst hyz
        repeat' first | refine O_stepL rfl ?_ | refine O_storeV rfl rfl vy.one rfl rfl rfl ?_ | refine O_at rfl rfl ay ?_ | refine O_at rfl rfl az ?_ | refine O_storeV rfl rfl vz.one rfl rfl rfl ?_ | refine O_lenO rfl lq1 lq2 ?_ | refine O_cA rfl rfl hcall ?_ | refine fin _ _ _ _ rfl rfl rfl rfl rfl rfl rfl rfl | refine V_O rfl ?_ | refine O_step rfl ?_ | refine O_nil' ?_ | refine V_cT rfl rfl ?_ | refine V_cF rfl rfl ?_ | refine V_cEq rfl rfl ?_ | refine V_cNe rfl rfl ?_ | refine V_cB rfl rfl (fun _ => ?_) (fun _ => ?_) | refine O_gT' rfl ?_ | refine O_gU' rfl ?_ | refine O_gF' rfl rfl ?_ | refine O_gEq rfl ?_ | refine O_gNe rfl ?_ | refine O_gS rfl (fun _ => ?_) (fun _ => ?_) | refine V_fA rfl rfl ?_ | refine V_fAN rfl rfl ?_ | refine V_D rfl ?_ | refine D_step rfl ?_ | refine D_nil' ?_ | refine D_gT' rfl ?_ | refine D_gU' rfl ?_ | refine D_gF' rfl rfl ?_ | refine D_gS rfl (fun _ => ?_) (fun _ => ?_)
        all_goals (exfalso; clear ret hih ihr ih fin; subst ha hb; simp at *; try omega)
      · have hc : r = cmpVs la lb := by rw [hcm]; exact (if_neg hyz).symm
        repeat' first | refine O_stepL rfl ?_ | refine O_storeV rfl rfl vy.one rfl rfl rfl ?_ | refine O_at rfl rfl ay ?_ | refine O_at rfl rfl az ?_ | refine O_storeV rfl rfl vz.one rfl rfl rfl ?_ | refine O_lenO rfl lq1 lq2 ?_ | refine O_cA rfl rfl hcall ?_ | refine ret _ _ _ _ r rfl rfl hc | refine V_O rfl ?_ | refine O_step rfl ?_ | refine O_nil' ?_ | refine V_cT rfl rfl ?_ | refine V_cF rfl rfl ?_ | refine V_cEq rfl rfl ?_ | refine V_cNe rfl rfl ?_ | refine V_cB rfl rfl (fun _ => ?_) (fun _ => ?_) | refine O_gT' rfl ?_ | refine O_gU' rfl ?_ | refine O_gF' rfl rfl ?_ | refine O_gEq rfl ?_ | refine O_gNe rfl ?_ | refine O_gS rfl (fun _ => ?_) (fun _ => ?_) | refine V_fA rfl rfl ?_ | refine V_fAN rfl rfl ?_ | refine V_D rfl ?_ | refine D_step rfl ?_ | refine D_nil' ?_ | refine D_gT' rfl ?_ | refine D_gU' rfl ?_ | refine D_gF' rfl rfl ?_ | refine D_gS rfl (fun _ => ?_) (fun _ => ?_)
        all_goals (exfalso; clear ret hih ihr ih hc hcall)
        all_goals first | (subst ha hb; simp at *; omega) | (refine hyz ?_; simp_all; done)
theorem run_CompareFunc (la lb : List Val) (p q : PV) (hp : LC la p) (hq : LC lb q)
    (ih : ∀ (j : Nat) (v : Val) (cs : List PV), la[j]? = some v → At 4 p j cs → ∀ (w : Val) (ds : List PV), VC w ds → T.R (.call n_value_Compare [.agg cs, .agg ds] (.int .i64 (cmpV v w)))) :
    T.R (.call n_slices_CompareFunc_api_Value [p, q, .func n_value_Compare []] (.int .i64 (cmpVs la lb))) := by
  obtain ⟨lp1, lp2, lp3⟩ := hp.len
  obtain ⟨lq1, lq2, lq3⟩ := hq.len
  have hl := fun e h0 h1 h2 h3 h4 h5 => cmpf_loop la lb p q hp hq ih la lb [] e rfl rfl h0 h1 h2 h3 h4 h5
  generalize hc : cmpVs la lb = r at hl ⊢
  refine call_V rfl rfl ?_
  repeat' first | refine O_lenO rfl lp1 lp2 ?_ | refine O_lenO rfl lq1 lq2 ?_ | refine V_cutA rfl (hl _ rfl rfl rfl rfl rfl rfl) ?_ | refine V_O rfl ?_ | refine O_step rfl ?_ | refine O_nil' ?_ | refine V_cT rfl rfl ?_ | refine V_cF rfl rfl ?_ | refine V_cEq rfl rfl ?_ | refine V_cNe rfl rfl ?_ | refine V_cB rfl rfl (fun _ => ?_) (fun _ => ?_) | refine O_gT' rfl ?_ | refine O_gU' rfl ?_ | refine O_gF' rfl rfl ?_ | refine O_gEq rfl ?_ | refine O_gNe rfl ?_ | refine O_gS rfl (fun _ => ?_) (fun _ => ?_) | refine V_fA rfl rfl ?_ | refine V_fAN rfl rfl ?_ | refine V_D rfl ?_ | refine D_step rfl ?_ | refine D_nil' ?_ | refine D_gT' rfl ?_ | refine D_gU' rfl ?_ | refine D_gF' rfl rfl ?_ | refine D_gS rfl (fun _ => ?_) (fun _ => ?_)
  rintro x e' st' (⟨rfl, rfl, rfl, h⟩ | ⟨rfl, rfl⟩)
  · rw [hc] at h
    repeat' first | refine O_lenO rfl lp1 lp2 ?_ | refine O_lenO rfl lq1 lq2 ?_ | refine V_O rfl ?_ | refine O_step rfl ?_ | refine O_nil' ?_ | refine V_cT rfl rfl ?_ | refine V_cF rfl rfl ?_ | refine V_cEq rfl rfl ?_ | refine V_cNe rfl rfl ?_ | refine V_cB rfl rfl (fun _ => ?_) (fun _ => ?_) | refine O_gT' rfl ?_ | refine O_gU' rfl ?_ | refine O_gF' rfl rfl ?_ | refine O_gEq rfl ?_ | refine O_gNe rfl ?_ | refine O_gS rfl (fun _ => ?_) (fun _ => ?_) | refine V_fA rfl rfl ?_ | refine V_fAN rfl rfl ?_ | refine V_D rfl ?_ | refine D_step rfl ?_ | refine D_nil' ?_ | refine D_gT' rfl ?_ | refine D_gU' rfl ?_ | refine D_gF' rfl rfl ?_ | refine D_gS rfl (fun _ => ?_) (fun _ => ?_)
    all_goals simp only [decide_eq_true_eq, decide_eq_false_iff_not] at *
    · rw [h, if_pos (by omega)]
    · rw [h, if_neg (by omega)]
  · rw [hc]
    repeat' first | refine V_O rfl ?_ | refine O_step rfl ?_ | refine O_nil' ?_ | refine V_cT rfl rfl ?_ | refine V_cF rfl rfl ?_ | refine V_cEq rfl rfl ?_ | refine V_cNe rfl rfl ?_ | refine V_cB rfl rfl (fun _ => ?_) (fun _ => ?_) | refine O_gT' rfl ?_ | refine O_gU' rfl ?_ | refine O_gF' rfl rfl ?_ | refine O_gEq rfl ?_ | refine O_gNe rfl ?_ | refine O_gS rfl (fun _ => ?_) (fun _ => ?_) | refine V_fA rfl rfl ?_ | refine V_fAN rfl rfl ?_ | refine V_D rfl ?_ | refine D_step rfl ?_ | refine D_nil' ?_ | refine D_gT' rfl ?_ | refine D_gU' rfl ?_ | refine D_gF' rfl rfl ?_ | refine D_gS rfl (fun _ => ?_) (fun _ => ?_)
    all_goals rfl
theorem run_Compare {a : Val} {ca : List PV} (ha : VC a ca) : ∀ (b : Val) (cb : List PV), VC b cb → T.R (.call n_value_Compare [.agg ca, .agg cb] (.int .i64 (cmpV a b))) := by
  refine VC.ind (M := fun a ca => ∀ (b : Val) (cb : List PV), VC b cb → T.R (.call n_value_Compare [.agg ca, .agg cb] (.int .i64 (cmpV a b)))) ?_ ha
  rintro k n s l p hk hn hs hp ih ⟨k', n', s', l'⟩ cb hb
  obtain ⟨hk', hn', hs', q, rfl, hq⟩ := hb.open
  have h1 := run_cmpInt k k'
  have h2 := run_cmpInt64 n n'
  have h3 := run_strCompare s s'
  have h4 := run_CompareFunc l l' p q hp hq ih
  have plp := hp.pl
  have plq := hq.pl
  have h5 := run_Or4 (cmpI k k') (cmpI n n') (cmpS s s') (cmpVs l l') true
  refine call_V rfl rfl ?_
  repeat' first | refine O_stepL rfl ?_ | refine D_cA rfl rfl h1 ?_ | refine D_cA rfl rfl h2 ?_ | refine D_cA rfl rfl h3 ?_ | refine D_cA rfl rfl h4 ?_ | refine D_cA rfl rfl h5 ?_ | refine V_O rfl ?_ | refine O_step rfl ?_ | refine O_nil' ?_ | refine V_cT rfl rfl ?_ | refine V_cF rfl rfl ?_ | refine V_cEq rfl rfl ?_ | refine V_cNe rfl rfl ?_ | refine V_cB rfl rfl (fun _ => ?_) (fun _ => ?_) | refine O_gT' rfl ?_ | refine O_gU' rfl ?_ | refine O_gF' rfl rfl ?_ | refine O_gEq rfl ?_ | refine O_gNe rfl ?_ | refine O_gS rfl (fun _ => ?_) (fun _ => ?_) | refine V_fA rfl rfl ?_ | refine V_fAN rfl rfl ?_ | refine V_D rfl ?_ | refine D_step rfl ?_ | refine D_nil' ?_ | refine D_gT' rfl ?_ | refine D_gU' rfl ?_ | refine D_gF' rfl rfl ?_ | refine D_gS rfl (fun _ => ?_) (fun _ => ?_)
  all_goals (unfold cmpV; rfl)
end Go.Proofs.YtinojffgmgjblaaGreatDoor

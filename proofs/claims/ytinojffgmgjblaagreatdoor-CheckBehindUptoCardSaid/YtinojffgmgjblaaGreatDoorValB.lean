/- How two values stand: rambleref02.Compare, Same, SameAll. -/
import Derived.Test.YtinojffgmgjblaaGreatDoorOrd
set_option linter.unusedVariables false
set_option linter.unusedSimpArgs false
namespace Go.Proofs.YtinojffgmgjblaaGreatDoor
open Go Go.AM Go.RowKit
def stV (ca cb : List PV) : St := ⟨0, 2, [(0, .var ca), (1, .var cb)]⟩
def cmpP (S : St) (la lb : List Val) : EX → EC → St → Prop := fun x e' st' => st' = S ∧ ((x = .exit 0 ∧ e' = .put 2 (.ptr 0 0) (.put 3 (.ptr 1 0) .nil) ∧ cmpI la.length lb.length = cmpVs la lb) ∨ (x = .ret ∧ e' = .put 4 (.int .i64 (cmpVs la lb)) .nil ∧ cmpVs la lb ≠ 0))
theorem cmp_loop (k n k' n' : Int) (s s' : List UInt8) (la lb : List Val) (p q : PV) (hp : LC la p) (hq : LC lb q)
    (ih : ∀ (j : Nat) (v : Val) (cs : List PV), la[j]? = some v → At 4 p j cs → ∀ (w : Val) (ds : List PV), VC w ds → T.R (.call n_rambleref02_Compare [.agg cs, .agg ds] (.int .i64 (cmpV v w)))) :
    ∀ (ra rb pre : List Val) (e : EC), la = pre ++ ra → lb = pre ++ rb → e.get 2 = some (.ptr 0 0) → e.get 3 = some (.ptr 1 0) → e.get 8 = some (.int .i64 pre.length) →
    V T (PE (cmpP (stV [.int .i64 k, .int .i64 n, .str s, p] [.int .i64 k', .int .i64 n', .str s', q]) la lb)) [.code (.loop lp_rambleref02_Compare_0)] .normal e (stV [.int .i64 k, .int .i64 n, .str s, p] [.int .i64 k', .int .i64 n', .str s', q]) := by
  obtain ⟨lp1, lp2, lp3⟩ := hp.len
  obtain ⟨lq1, lq2, lq3⟩ := hq.len
  have out : ∀ (ra rb pre : List Val) (fr : List Fr) (x : EX) (e' : EC), la = pre ++ ra → lb = pre ++ rb → ra = [] ∨ rb = [] → adv 200 fr x = ([], .exit 0) → e'.get 2 = some (.ptr 0 0) → e'.get 3 = some (.ptr 1 0) → V T (PE (cmpP (stV [.int .i64 k, .int .i64 n, .str s, p] [.int .i64 k', .int .i64 n', .str s', q]) la lb)) fr x e' (stV [.int .i64 k, .int .i64 n, .str s, p] [.int .i64 k', .int .i64 n', .str s', q]) := fun ra rb pre fr x e' ha hb hn hadv g0 g1 =>
    V_less (.put 2 (.ptr 0 0) (.put 3 (.ptr 1 0) .nil)) (less_put g0 (less_put g1 less_nil)) (V_endP hadv ⟨rfl, .inl ⟨rfl, rfl, by
      rw [ha, hb, cmpVs_pre]
      rcases hn with rfl | rfl
      · cases rb <;> simp [cmpVs, cmpI] <;> omega
      · cases ra <;> simp [cmpVs, cmpI] <;> omega⟩⟩)
  intro ra
  induction ra with
  | nil =>
    intro rb pre e ha hb h0 h1 h5
    refine V_less (.put 2 (.ptr 0 0) (.put 3 (.ptr 1 0) (.put 8 _ .nil))) (less_put h0 (less_put h1 (less_put h5 less_nil))) (V_unroll ?_)
    repeat' first | refine O_lenO rfl lp1 lp2 ?_ | refine O_lenO rfl lq1 lq2 ?_ | refine out [] rb pre _ _ _ ha hb (.inl rfl) rfl rfl rfl | refine V_O rfl ?_ | refine O_step rfl ?_ | refine O_nil' ?_ | refine V_cT rfl rfl ?_ | refine V_cF rfl rfl ?_ | refine V_cEq rfl rfl ?_ | refine V_cNe rfl rfl ?_ | refine V_cB rfl rfl (fun _ => ?_) (fun _ => ?_) | refine O_gT' rfl ?_ | refine O_gU' rfl ?_ | refine O_gF' rfl rfl ?_ | refine O_gEq rfl ?_ | refine O_gNe rfl ?_ | refine O_gS rfl (fun _ => ?_) (fun _ => ?_) | refine V_fA rfl rfl ?_ | refine V_fAN rfl rfl ?_ | refine V_D rfl ?_ | refine D_step rfl ?_ | refine D_nil' ?_ | refine D_gT' rfl ?_ | refine D_gU' rfl ?_ | refine D_gF' rfl rfl ?_ | refine D_gS rfl (fun _ => ?_) (fun _ => ?_)
    all_goals (exfalso; subst ha; simp at *)
  | cons y ra ihr =>
    intro rb pre e ha hb h0 h1 h5
    refine V_less (.put 2 (.ptr 0 0) (.put 3 (.ptr 1 0) (.put 8 _ .nil))) (less_put h0 (less_put h1 (less_put h5 less_nil))) (V_unroll ?_)
    cases rb with
    | nil =>
      repeat' first | refine O_lenO rfl lp1 lp2 ?_ | refine O_lenO rfl lq1 lq2 ?_ | refine out (y :: ra) [] pre _ _ _ ha hb (.inr rfl) rfl rfl rfl | refine V_O rfl ?_ | refine O_step rfl ?_ | refine O_nil' ?_ | refine V_cT rfl rfl ?_ | refine V_cF rfl rfl ?_ | refine V_cEq rfl rfl ?_ | refine V_cNe rfl rfl ?_ | refine V_cB rfl rfl (fun _ => ?_) (fun _ => ?_) | refine O_gT' rfl ?_ | refine O_gU' rfl ?_ | refine O_gF' rfl rfl ?_ | refine O_gEq rfl ?_ | refine O_gNe rfl ?_ | refine O_gS rfl (fun _ => ?_) (fun _ => ?_) | refine V_fA rfl rfl ?_ | refine V_fAN rfl rfl ?_ | refine V_D rfl ?_ | refine D_step rfl ?_ | refine D_nil' ?_ | refine D_gT' rfl ?_ | refine D_gU' rfl ?_ | refine D_gF' rfl rfl ?_ | refine D_gS rfl (fun _ => ?_) (fun _ => ?_)
      all_goals (exfalso; subst hb; simp at *)
    | cons z rb =>
      have hy : la[pre.length]? = some y := by subst ha; simp
      have hz : lb[pre.length]? = some z := by subst hb; simp
      obtain ⟨cy, ay, vy⟩ := hp.at hy
      obtain ⟨cz, az, vz⟩ := hq.at hz
      have ply := vy.pl
      have plz := vz.pl
      have hcall := ih _ y cy hy ay z cz vz
      have hcm : cmpVs la lb = orI (cmpV y z) (cmpVs ra rb) := by rw [ha, hb, cmpVs_pre]; rfl
      by_cases hyz : cmpV y z = 0
      · have hyz' := cmpV_zero.1 hyz
        subst hyz'
        have fin : ∀ (fr : List Fr) (x : EX) (e' : EC), adv 200 fr x = ([.code (.loop lp_rambleref02_Compare_0)], .normal) → e'.get 2 = some (.ptr 0 0) → e'.get 3 = some (.ptr 1 0) → e'.get 8 = some (.int .i64 (IntKind.i64.wrap (pre.length + 1))) → V T (PE (cmpP (stV [.int .i64 k, .int .i64 n, .str s, p] [.int .i64 k', .int .i64 n', .str s', q]) la lb)) fr x e' (stV [.int .i64 k, .int .i64 n, .str s, p] [.int .i64 k', .int .i64 n', .str s', q]) := fun fr x e' hadv g0 g1 g5 => V_adv hadv (by
          have hlt : pre.length < la.length := by subst ha; simp
          have hw : IntKind.i64.wrap (pre.length + 1) = ((pre ++ [y]).length : Int) := by rw [wrap_i64]; simp; omega
          rw [hw] at g5
          exact ihr rb (pre ++ [y]) e' (by rw [ha]; simp) (by rw [hb]; simp) g0 g1 g5)
        rw [hyz] at hcall
        repeat' first | refine O_lenO rfl lp1 lp2 ?_ | refine O_lenO rfl lq1 lq2 ?_ | refine D_at rfl rfl ay ?_ | refine D_at rfl rfl az ?_ | refine D_loadA rfl vy.len4 ?_ | refine D_loadA rfl vz.len4 ?_ | refine D_cA rfl rfl hcall ?_ | refine fin _ _ _ rfl rfl rfl rfl | refine V_O rfl ?_ | refine O_step rfl ?_ | refine O_nil' ?_ | refine V_cT rfl rfl ?_ | refine V_cF rfl rfl ?_ | refine V_cEq rfl rfl ?_ | refine V_cNe rfl rfl ?_ | refine V_cB rfl rfl (fun _ => ?_) (fun _ => ?_) | refine O_gT' rfl ?_ | refine O_gU' rfl ?_ | refine O_gF' rfl rfl ?_ | refine O_gEq rfl ?_ | refine O_gNe rfl ?_ | refine O_gS rfl (fun _ => ?_) (fun _ => ?_) | refine V_fA rfl rfl ?_ | refine V_fAN rfl rfl ?_ | refine V_D rfl ?_ | refine D_step rfl ?_ | refine D_nil' ?_ | refine D_gT' rfl ?_ | refine D_gU' rfl ?_ | refine D_gF' rfl rfl ?_ | refine D_gS rfl (fun _ => ?_) (fun _ => ?_)
        all_goals (exfalso; subst ha hb; simp at *; try omega)
      · have ret : ∀ (fr : List Fr) (x : EX) (e' : EC), adv 200 fr x = ([], .ret) → e'.get 4 = some (.int .i64 (cmpV y z)) → V T (PE (cmpP (stV [.int .i64 k, .int .i64 n, .str s, p] [.int .i64 k', .int .i64 n', .str s', q]) la lb)) fr x e' (stV [.int .i64 k, .int .i64 n, .str s, p] [.int .i64 k', .int .i64 n', .str s', q]) := fun fr x e' hadv g0 => by
          have he : cmpVs la lb = cmpV y z := by rw [hcm]; exact if_neg hyz
          exact V_less (.put 4 _ .nil) (less_put g0 less_nil) (V_endP hadv ⟨rfl, .inr ⟨rfl, by rw [he], by rw [he]; exact hyz⟩⟩)
        generalize hcr : cmpV y z = r at hcall ret hyz
        repeat' first | refine O_lenO rfl lp1 lp2 ?_ | refine O_lenO rfl lq1 lq2 ?_ | refine D_at rfl rfl ay ?_ | refine D_at rfl rfl az ?_ | refine D_loadA rfl vy.len4 ?_ | refine D_loadA rfl vz.len4 ?_ | refine D_cA rfl rfl hcall ?_ | refine ret _ _ _ rfl rfl | refine V_O rfl ?_ | refine O_step rfl ?_ | refine O_nil' ?_ | refine V_cT rfl rfl ?_ | refine V_cF rfl rfl ?_ | refine V_cEq rfl rfl ?_ | refine V_cNe rfl rfl ?_ | refine V_cB rfl rfl (fun _ => ?_) (fun _ => ?_) | refine O_gT' rfl ?_ | refine O_gU' rfl ?_ | refine O_gF' rfl rfl ?_ | refine O_gEq rfl ?_ | refine O_gNe rfl ?_ | refine O_gS rfl (fun _ => ?_) (fun _ => ?_) | refine V_fA rfl rfl ?_ | refine V_fAN rfl rfl ?_ | refine V_D rfl ?_ | refine D_step rfl ?_ | refine D_nil' ?_ | refine D_gT' rfl ?_ | refine D_gU' rfl ?_ | refine D_gF' rfl rfl ?_ | refine D_gS rfl (fun _ => ?_) (fun _ => ?_)
        all_goals clear ihr ret out hcall ih
        all_goals (exfalso; first | (subst ha hb; simp at *; omega) | (refine hyz ?_; simp_all; done))
theorem run_Compare2 {a : Val} {ca : List PV} (ha : VC a ca) : ∀ (b : Val) (cb : List PV), VC b cb → T.R (.call n_rambleref02_Compare [.agg ca, .agg cb] (.int .i64 (cmpV a b))) := by
  refine VC.ind (M := fun a ca => ∀ (b : Val) (cb : List PV), VC b cb → T.R (.call n_rambleref02_Compare [.agg ca, .agg cb] (.int .i64 (cmpV a b)))) ?_ ha
  rintro k n s l p hk hn hs hp ih ⟨k', n', s', l'⟩ cb hb
  obtain ⟨hk', hn', hs', q, rfl, hq⟩ := hb.open
  have h1 := run_num2 k k'
  have h2 := run_num2 n n'
  have h3 := run_text2 s s' (by omega)
  have h4 := run_num2 l.length l'.length
  have plp := hp.pl
  have plq := hq.pl
  obtain ⟨lp1, lp2, lp3⟩ := hp.len
  obtain ⟨lq1, lq2, lq3⟩ := hq.len
  have hl := fun e h0 h1 h2 => cmp_loop k n k' n' s s' l l' p q hp hq ih l l' [] e rfl rfl h0 h1 h2
  unfold cmpV orI
  generalize cmpI k k' = r1 at h1 ⊢
  generalize cmpI n n' = r2 at h2 ⊢
  generalize cmpS s s' = r3 at h3 ⊢
  refine call_V rfl rfl ?_
  repeat' first | refine O_stepL rfl ?_ | refine O_cA rfl rfl h1 ?_ | refine O_cA rfl rfl h2 ?_ | refine O_cA rfl rfl h3 ?_ | refine V_cutA rfl (hl _ rfl rfl rfl) ?_ | refine V_O rfl ?_ | refine O_step rfl ?_ | refine O_nil' ?_ | refine V_cT rfl rfl ?_ | refine V_cF rfl rfl ?_ | refine V_cEq rfl rfl ?_ | refine V_cNe rfl rfl ?_ | refine V_cB rfl rfl (fun _ => ?_) (fun _ => ?_) | refine O_gT' rfl ?_ | refine O_gU' rfl ?_ | refine O_gF' rfl rfl ?_ | refine O_gEq rfl ?_ | refine O_gNe rfl ?_ | refine O_gS rfl (fun _ => ?_) (fun _ => ?_) | refine V_fA rfl rfl ?_ | refine V_fAN rfl rfl ?_ | refine V_D rfl ?_ | refine D_step rfl ?_ | refine D_nil' ?_ | refine D_gT' rfl ?_ | refine D_gU' rfl ?_ | refine D_gF' rfl rfl ?_ | refine D_gS rfl (fun _ => ?_) (fun _ => ?_)
  all_goals simp only [Bool.not_eq_true', Bool.not_eq_false', decide_eq_true_eq, decide_eq_false_iff_not] at *
  · rw [if_neg ‹_›]
  · rw [if_pos ‹_›, if_neg ‹_›]
  · rw [if_pos ‹_›, if_pos ‹_›, if_neg ‹_›]
  · rw [if_pos ‹_›, if_pos ‹_›, if_pos ‹_›]
    rintro x e' st' ⟨rfl, ⟨rfl, rfl, hc⟩ | ⟨rfl, rfl, hc⟩⟩
    · rw [hc] at h4
      repeat' first | refine O_lenO rfl lp1 lp2 ?_ | refine O_lenO rfl lq1 lq2 ?_ | refine O_cA rfl rfl h4 ?_ | refine V_O rfl ?_ | refine O_step rfl ?_ | refine O_nil' ?_ | refine V_cT rfl rfl ?_ | refine V_cF rfl rfl ?_ | refine V_cEq rfl rfl ?_ | refine V_cNe rfl rfl ?_ | refine V_cB rfl rfl (fun _ => ?_) (fun _ => ?_) | refine O_gT' rfl ?_ | refine O_gU' rfl ?_ | refine O_gF' rfl rfl ?_ | refine O_gEq rfl ?_ | refine O_gNe rfl ?_ | refine O_gS rfl (fun _ => ?_) (fun _ => ?_) | refine V_fA rfl rfl ?_ | refine V_fAN rfl rfl ?_ | refine V_D rfl ?_ | refine D_step rfl ?_ | refine D_nil' ?_ | refine D_gT' rfl ?_ | refine D_gU' rfl ?_ | refine D_gF' rfl rfl ?_ | refine D_gS rfl (fun _ => ?_) (fun _ => ?_)
      all_goals rfl
    · repeat' first | refine V_O rfl ?_ | refine O_step rfl ?_ | refine O_nil' ?_ | refine V_cT rfl rfl ?_ | refine V_cF rfl rfl ?_ | refine V_cEq rfl rfl ?_ | refine V_cNe rfl rfl ?_ | refine V_cB rfl rfl (fun _ => ?_) (fun _ => ?_) | refine O_gT' rfl ?_ | refine O_gU' rfl ?_ | refine O_gF' rfl rfl ?_ | refine O_gEq rfl ?_ | refine O_gNe rfl ?_ | refine O_gS rfl (fun _ => ?_) (fun _ => ?_) | refine V_fA rfl rfl ?_ | refine V_fAN rfl rfl ?_ | refine V_D rfl ?_ | refine D_step rfl ?_ | refine D_nil' ?_ | refine D_gT' rfl ?_ | refine D_gU' rfl ?_ | refine D_gF' rfl rfl ?_ | refine D_gS rfl (fun _ => ?_) (fun _ => ?_)
      all_goals rfl
end Go.Proofs.YtinojffgmgjblaaGreatDoor

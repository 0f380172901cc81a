/- Whether two values are the same; whether all are; whether a value may be: rambleref02. -/
import Derived.Test.YtfdebgebnkbagaaDoorValD
set_option linter.unusedVariables false
set_option linter.unusedSimpArgs false
namespace Go.Proofs.YtfdebgebnkbagaaDoor
open Go Go.AM Go.RowKit
theorem run_Same {a b : Val} {ca cb : List PV} (ha : VC a ca) (hb : VC b cb) : T.R (.call n_rambleref02_Same [.agg ca, .agg cb] (.bool (decide (cmpV a b = 0)))) := by
  have h := run_Compare2 ha b cb hb
  generalize cmpV a b = r at h ⊢
  obtain ⟨k, n, s, l⟩ := a
  obtain ⟨k', n', s', l'⟩ := b
  obtain ⟨hk, hn, hs, p, rfl, hp⟩ := ha.open
  obtain ⟨hk', hn', hs', q, rfl, hq⟩ := hb.open
  have plp := hp.pl
  have plq := hq.pl
  refine call_V rfl rfl ?_
  repeat' first | refine O_stepL rfl ?_ | refine O_cA rfl rfl h ?_ | refine V_O rfl ?_ | refine O_step rfl ?_ | refine O_nil' ?_ | refine V_cT rfl rfl ?_ | refine V_cF rfl rfl ?_ | refine V_cEq rfl rfl ?_ | refine V_cNe rfl rfl ?_ | refine V_cB rfl rfl (fun _ => ?_) (fun _ => ?_) | refine O_gT' rfl ?_ | refine O_gU' rfl ?_ | refine O_gF' rfl rfl ?_ | refine O_gEq rfl ?_ | refine O_gNe rfl ?_ | refine O_gS rfl (fun _ => ?_) (fun _ => ?_) | refine V_fA rfl rfl ?_ | refine V_fAN rfl rfl ?_ | refine V_D rfl ?_ | refine D_step rfl ?_ | refine D_nil' ?_ | refine D_gT' rfl ?_ | refine D_gU' rfl ?_ | refine D_gF' rfl rfl ?_ | refine D_gS rfl (fun _ => ?_) (fun _ => ?_)
  all_goals rfl
def sameP (la lb : List Val) : EX → EC → St → Prop := fun x e' st' => st' = emptySt ∧ ((x = .exit 0 ∧ la = lb) ∨ (x = .ret ∧ e' = .put 4 (.bool false) .nil ∧ la ≠ lb))
theorem same_loop (la lb : List Val) (p q : PV) (hp : LC la p) (hq : LC lb q) (hll : la.length = lb.length) :
    ∀ (ra rb pre : List Val) (e : EC), la = pre ++ ra → lb = pre ++ rb → e.get 0 = some p → e.get 1 = some q → e.get 5 = some (.int .i64 pre.length) →
    V T (PE (sameP la lb)) [.code (.loop lp_rambleref02_SameAll_0)] .normal e emptySt := by
  obtain ⟨lp1, lp2, lp3⟩ := hp.len
  obtain ⟨lq1, lq2, lq3⟩ := hq.len
  intro ra
  induction ra with
  | nil =>
    intro rb pre e ha hb h0 h1 h5
    have hrb : rb = [] := by subst ha hb; simp at hll; exact hll
    have out : ∀ (fr : List Fr) (x : EX) (e' : EC), adv 200 fr x = ([], .exit 0) → V T (PE (sameP la lb)) fr x e' emptySt := fun fr x e' hadv => V_endP hadv ⟨rfl, .inl ⟨rfl, by rw [ha, hb, hrb]⟩⟩
    refine V_less (.put 0 p (.put 1 q (.put 5 (.int .i64 pre.length) .nil))) (less_put h0 (less_put h1 (less_put h5 less_nil))) (V_unroll ?_)
    repeat' first | refine O_lenO rfl lp1 lp2 ?_ | refine out _ _ _ rfl | refine V_O rfl ?_ | refine O_step rfl ?_ | refine O_nil' ?_ | refine V_cT rfl rfl ?_ | refine V_cF rfl rfl ?_ | refine V_cEq rfl rfl ?_ | refine V_cNe rfl rfl ?_ | refine V_cB rfl rfl (fun _ => ?_) (fun _ => ?_) | refine O_gT' rfl ?_ | refine O_gU' rfl ?_ | refine O_gF' rfl rfl ?_ | refine O_gEq rfl ?_ | refine O_gNe rfl ?_ | refine O_gS rfl (fun _ => ?_) (fun _ => ?_) | refine V_fA rfl rfl ?_ | refine V_fAN rfl rfl ?_ | refine V_D rfl ?_ | refine D_step rfl ?_ | refine D_nil' ?_ | refine D_gT' rfl ?_ | refine D_gU' rfl ?_ | refine D_gF' rfl rfl ?_ | refine D_gS rfl (fun _ => ?_) (fun _ => ?_)
    all_goals (exfalso; clear out; subst ha; simp at *)
  | cons y ra ihr =>
    intro rb pre e ha hb h0 h1 h5
    refine V_less (.put 0 p (.put 1 q (.put 5 (.int .i64 pre.length) .nil))) (less_put h0 (less_put h1 (less_put h5 less_nil))) (V_unroll ?_)
    cases rb with
    | nil => exfalso; subst ha hb; simp at hll
    | cons z rb =>
      have hy : la[pre.length]? = some y := by subst ha; simp
      have hz : lb[pre.length]? = some z := by subst hb; simp
      obtain ⟨cy, ay, vy⟩ := hp.at hy
      obtain ⟨cz, az, vz⟩ := hq.at hz
      have ply := vy.pl
      have plz := vz.pl
      have hcall := run_Same vy vz
      by_cases hyz : cmpV y z = 0
      · have hyz' := cmpV_zero.1 hyz
        have fin : ∀ (fr : List Fr) (x : EX) (e' : EC), adv 200 fr x = ([.code (.loop lp_rambleref02_SameAll_0)], .normal) → e'.get 0 = some p → e'.get 1 = some q → e'.get 5 = some (.int .i64 (IntKind.i64.wrap (pre.length + 1))) → V T (PE (sameP la lb)) fr x e' emptySt := fun fr x e' hadv g0 g1 g5 => V_adv hadv (by
          have hlt : pre.length < la.length := by subst ha; simp
          have hw : IntKind.i64.wrap (pre.length + 1) = ((pre ++ [y]).length : Int) := by rw [wrap_i64]; simp; omega
          rw [hw] at g5
          exact ihr rb (pre ++ [y]) e' (by rw [ha]; simp) (by rw [hb, hyz']; simp) g0 g1 g5)
        rw [hyz] at hcall
        repeat' first | refine O_lenO rfl lp1 lp2 ?_ | refine D_at rfl rfl ay ?_ | refine D_at rfl rfl az ?_ | refine D_loadA rfl vy.len4 ?_ | refine D_loadA rfl vz.len4 ?_ | refine D_cA rfl rfl hcall ?_ | refine fin _ _ _ rfl rfl rfl rfl | refine V_O rfl ?_ | refine O_step rfl ?_ | refine O_nil' ?_ | refine V_cT rfl rfl ?_ | refine V_cF rfl rfl ?_ | refine V_cEq rfl rfl ?_ | refine V_cNe rfl rfl ?_ | refine V_cB rfl rfl (fun _ => ?_) (fun _ => ?_) | refine O_gT' rfl ?_ | refine O_gU' rfl ?_ | refine O_gF' rfl rfl ?_ | refine O_gEq rfl ?_ | refine O_gNe rfl ?_ | refine O_gS rfl (fun _ => ?_) (fun _ => ?_) | refine V_fA rfl rfl ?_ | refine V_fAN rfl rfl ?_ | refine V_D rfl ?_ | refine D_step rfl ?_ | refine D_nil' ?_ | refine D_gT' rfl ?_ | refine D_gU' rfl ?_ | refine D_gF' rfl rfl ?_ | refine D_gS rfl (fun _ => ?_) (fun _ => ?_)
        all_goals (exfalso; clear fin ihr hcall; subst ha hb; simp at *; try omega)
      · have ret : ∀ (fr : List Fr) (x : EX) (e' : EC), adv 200 fr x = ([], .ret) → e'.get 4 = some (.bool false) → V T (PE (sameP la lb)) fr x e' emptySt := fun fr x e' hadv g0 => by
          refine V_less (.put 4 _ .nil) (less_put g0 less_nil) (V_endP hadv ⟨rfl, .inr ⟨rfl, rfl, fun he => hyz ?_⟩⟩)
          rw [ha, hb] at he
          have := List.append_cancel_left he
          injection this with h1 h2
          rw [h1]
          exact cmpV_self _
        rw [decide_eq_false hyz] at hcall
        repeat' first | refine O_lenO rfl lp1 lp2 ?_ | refine D_at rfl rfl ay ?_ | refine D_at rfl rfl az ?_ | refine D_loadA rfl vy.len4 ?_ | refine D_loadA rfl vz.len4 ?_ | refine D_cA rfl rfl hcall ?_ | refine ret _ _ _ rfl rfl | refine V_O rfl ?_ | refine O_step rfl ?_ | refine O_nil' ?_ | refine V_cT rfl rfl ?_ | refine V_cF rfl rfl ?_ | refine V_cEq rfl rfl ?_ | refine V_cNe rfl rfl ?_ | refine V_cB rfl rfl (fun _ => ?_) (fun _ => ?_) | refine O_gT' rfl ?_ | refine O_gU' rfl ?_ | refine O_gF' rfl rfl ?_ | refine O_gEq rfl ?_ | refine O_gNe rfl ?_ | refine O_gS rfl (fun _ => ?_) (fun _ => ?_) | refine V_fA rfl rfl ?_ | refine V_fAN rfl rfl ?_ | refine V_D rfl ?_ | refine D_step rfl ?_ | refine D_nil' ?_ | refine D_gT' rfl ?_ | refine D_gU' rfl ?_ | refine D_gF' rfl rfl ?_ | refine D_gS rfl (fun _ => ?_) (fun _ => ?_)
        all_goals (exfalso; clear ihr ret hcall; subst ha hb; simp at *; try omega)
theorem run_SameAll (la lb : List Val) (p q : PV) (hp : LC la p) (hq : LC lb q) : T.R (.call n_rambleref02_SameAll [p, q] (.bool (decide (cmpVs la lb = 0)))) := by
  obtain ⟨lp1, lp2, lp3⟩ := hp.len
  obtain ⟨lq1, lq2, lq3⟩ := hq.len
  have plp := hp.pl
  have plq := hq.pl
  have hc : decide (cmpVs la lb = 0) = true ↔ la = lb := by rw [decide_eq_true_eq, cmpVs_zero]
  generalize decide (cmpVs la lb = 0) = r at hc ⊢
  have hf : la ≠ lb → r = false := fun h => by cases r with
    | true => exact absurd (hc.1 rfl) h
    | false => rfl
  by_cases hll : la.length = lb.length
  · have hl := fun e h0 h1 h2 => same_loop la lb p q hp hq hll la lb [] e rfl rfl h0 h1 h2
    refine call_V rfl rfl ?_
    repeat' first | refine O_lenO rfl lp1 lp2 ?_ | refine O_lenO rfl lq1 lq2 ?_ | refine V_cutA rfl (hl _ rfl rfl rfl) ?_ | refine V_O rfl ?_ | refine O_step rfl ?_ | refine O_nil' ?_ | refine V_cT rfl rfl ?_ | refine V_cF rfl rfl ?_ | refine V_cEq rfl rfl ?_ | refine V_cNe rfl rfl ?_ | refine V_cB rfl rfl (fun _ => ?_) (fun _ => ?_) | refine O_gT' rfl ?_ | refine O_gU' rfl ?_ | refine O_gF' rfl rfl ?_ | refine O_gEq rfl ?_ | refine O_gNe rfl ?_ | refine O_gS rfl (fun _ => ?_) (fun _ => ?_) | refine V_fA rfl rfl ?_ | refine V_fAN rfl rfl ?_ | refine V_D rfl ?_ | refine D_step rfl ?_ | refine D_nil' ?_ | refine D_gT' rfl ?_ | refine D_gU' rfl ?_ | refine D_gF' rfl rfl ?_ | refine D_gS rfl (fun _ => ?_) (fun _ => ?_)
    · exfalso; simp at *; omega
    · rintro x e' st' ⟨rfl, ⟨rfl, h⟩ | ⟨rfl, rfl, h⟩⟩
      · repeat' first | refine V_O rfl ?_ | refine O_step rfl ?_ | refine O_nil' ?_ | refine V_cT rfl rfl ?_ | refine V_cF rfl rfl ?_ | refine V_cEq rfl rfl ?_ | refine V_cNe rfl rfl ?_ | refine V_cB rfl rfl (fun _ => ?_) (fun _ => ?_) | refine O_gT' rfl ?_ | refine O_gU' rfl ?_ | refine O_gF' rfl rfl ?_ | refine O_gEq rfl ?_ | refine O_gNe rfl ?_ | refine O_gS rfl (fun _ => ?_) (fun _ => ?_) | refine V_fA rfl rfl ?_ | refine V_fAN rfl rfl ?_ | refine V_D rfl ?_ | refine D_step rfl ?_ | refine D_nil' ?_ | refine D_gT' rfl ?_ | refine D_gU' rfl ?_ | refine D_gF' rfl rfl ?_ | refine D_gS rfl (fun _ => ?_) (fun _ => ?_)
        rw [hc.2 h]
      · repeat' first | refine V_O rfl ?_ | refine O_step rfl ?_ | refine O_nil' ?_ | refine V_cT rfl rfl ?_ | refine V_cF rfl rfl ?_ | refine V_cEq rfl rfl ?_ | refine V_cNe rfl rfl ?_ | refine V_cB rfl rfl (fun _ => ?_) (fun _ => ?_) | refine O_gT' rfl ?_ | refine O_gU' rfl ?_ | refine O_gF' rfl rfl ?_ | refine O_gEq rfl ?_ | refine O_gNe rfl ?_ | refine O_gS rfl (fun _ => ?_) (fun _ => ?_) | refine V_fA rfl rfl ?_ | refine V_fAN rfl rfl ?_ | refine V_D rfl ?_ | refine D_step rfl ?_ | refine D_nil' ?_ | refine D_gT' rfl ?_ | refine D_gU' rfl ?_ | refine D_gF' rfl rfl ?_ | refine D_gS rfl (fun _ => ?_) (fun _ => ?_)
        rw [hf h]
  · refine call_V rfl rfl ?_
    repeat' first | refine O_lenO rfl lp1 lp2 ?_ | refine O_lenO rfl lq1 lq2 ?_ | refine V_O rfl ?_ | refine O_step rfl ?_ | refine O_nil' ?_ | refine V_cT rfl rfl ?_ | refine V_cF rfl rfl ?_ | refine V_cEq rfl rfl ?_ | refine V_cNe rfl rfl ?_ | refine V_cB rfl rfl (fun _ => ?_) (fun _ => ?_) | refine O_gT' rfl ?_ | refine O_gU' rfl ?_ | refine O_gF' rfl rfl ?_ | refine O_gEq rfl ?_ | refine O_gNe rfl ?_ | refine O_gS rfl (fun _ => ?_) (fun _ => ?_) | refine V_fA rfl rfl ?_ | refine V_fAN rfl rfl ?_ | refine V_D rfl ?_ | refine D_step rfl ?_ | refine D_nil' ?_ | refine D_gT' rfl ?_ | refine D_gU' rfl ?_ | refine D_gF' rfl rfl ?_ | refine D_gS rfl (fun _ => ?_) (fun _ => ?_)
    · rw [hf (fun h => hll (by rw [h]))]
    all_goals (exfalso; simp at *; omega)
def risesV : List Val → Bool
  | a :: _ :: c :: r => decide (cmpV a c < 0) && risesV (c :: r)
  | _ => true
def mayV : Nat → Val → Bool
  | 0, _ => false
  | f + 1, .mk k n s l =>
    if k = 1 then decide (s = []) && decide ((l.length : Int) = 0)
    else if k = 3 then decide (s = []) && decide ((l.length : Int) = 0) && (decide (n = 0) || decide (n = 1))
    else if k = 6 then decide (s = []) && decide ((l.length : Int) = 0) && decide (1 ≤ n) && decide (n ≤ 281474976710656)
    else if k = 7 then decide (s = []) && decide ((l.length : Int) = 0) && decide (1 ≤ n) && decide (n ≤ 281474976710656)
    else if k = 2 then decide (n = 0) && decide ((l.length : Int) = 0) && decide ((s.length : Int) ≤ 128)
    else if k = 4 then decide (n = 0) && decide (s = []) && decide ((l.length : Int) ≤ 256) && l.all (mayV f)
    else if k = 5 then decide (n = 0) && decide (s = []) && decide ((l.length : Int) ≤ 512) && decide ((l.length : Int).tmod 2 = 0) && l.all (mayV f) && risesV l
    else false
end Go.Proofs.YtfdebgebnkbagaaDoor

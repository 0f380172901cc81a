/- value.may, one step; slices.ContainsFunc over it. -/
import Derived.Test.YtinojffgmgjblaaGreatDoorValG
set_option linter.unusedVariables false
set_option linter.unusedSimpArgs false
namespace Go.Proofs.YtinojffgmgjblaaGreatDoor
open Go Go.AM Go.RowKit
def idxV (P : Val → Bool) : List Val → Nat → Int
  | [], _ => -1
  | v :: r, i => if P v then i else idxV P r (i + 1)
theorem idxV_any (P : Val → Bool) : ∀ (l : List Val) (i : Nat), decide (0 ≤ idxV P l i) = l.any P
  | [], i => by simp [idxV]
  | v :: r, i => by
    unfold idxV
    have := idxV_any P r (i + 1)
    cases h : P v with
    | true => simp [h]
    | false => simp [h, this]
theorem run_may1 (f : Nat) (d : Int) (hd : d + f = 8 ∧ 0 ≤ d) (v : Val) (cs : List PV) (hv : VC v cs) (hm : T.R (.call n_value_may [.agg cs, .int .i64 (d + 1)] (.bool (mayV f v)))) :
    T.R (.call n_value_may_1 [.agg cs, .iptr [.int .i64 d] 0] (.bool (!mayV f v))) := by
  have hw : IntKind.i64.wrap (d + 1) = d + 1 := by rw [wrap_i64]; omega
  rw [← hw] at hm
  obtain ⟨k, n, s, l⟩ := v
  generalize mayV f _ = r at hm ⊢
  obtain ⟨hk, hn, hs, p, rfl, hp⟩ := hv.open
  have plp := hp.pl
  refine call_V rfl rfl ?_
  repeat' first | refine O_stepL rfl ?_ | refine O_cA rfl rfl hm ?_ | refine V_O rfl ?_ | refine O_step rfl ?_ | refine O_nil' ?_ | refine V_cT rfl rfl ?_ | refine V_cF rfl rfl ?_ | refine V_cEq rfl rfl ?_ | refine V_cNe rfl rfl ?_ | refine V_cB rfl rfl (fun _ => ?_) (fun _ => ?_) | refine O_gT' rfl ?_ | refine O_gU' rfl ?_ | refine O_gF' rfl rfl ?_ | refine O_gEq rfl ?_ | refine O_gNe rfl ?_ | refine O_gS rfl (fun _ => ?_) (fun _ => ?_) | refine V_fA rfl rfl ?_ | refine V_fAN rfl rfl ?_ | refine V_D rfl ?_ | refine D_step rfl ?_ | refine D_nil' ?_ | refine D_gT' rfl ?_ | refine D_gU' rfl ?_ | refine D_gF' rfl rfl ?_ | refine D_gS rfl (fun _ => ?_) (fun _ => ?_)
  all_goals rfl
def idxP (P : Val → Bool) (l : List Val) : EX → EC → St → Prop := fun x e' st' => st' = emptySt ∧ ((x = .exit 0 ∧ idxV P l 0 = -1) ∨ (x = .ret ∧ e' = .put 4 (.int .i64 (idxV P l 0)) .nil))
theorem idx_loop (P : Val → Bool) (g : Nat) (caps : List PV) (plc : ∀ c ∈ caps, Pl c) (l : List Val) (p : PV) (hp : LC l p)
    (hm : ∀ (j : Nat) (v : Val) (cs : List PV), l[j]? = some v → At 4 p j cs → T.R (.call g (.agg cs :: caps) (.bool (P v)))) :
    ∀ (ra pre : List Val) (e : EC), l = pre ++ ra → idxV P l 0 = idxV P ra pre.length → e.get 0 = some p → e.get 1 = some (.func g caps) → e.get 7 = some (.int .i64 l.length) → e.get 8 = some (.int .i64 pre.length) →
    V T (PE (idxP P l)) [.code (.loop lp_slices_IndexFunc_api_Value_0)] .normal e emptySt := by
  obtain ⟨lp1, lp2, lp3⟩ := hp.len
  intro ra
  induction ra with
  | nil =>
    intro pre e ha hi h0 h1 h7 h8
    have out : ∀ (fr : List Fr) (x : EX) (e' : EC), adv 200 fr x = ([], .exit 0) → V T (PE (idxP P l)) fr x e' emptySt := fun fr x e' hadv => V_endP hadv ⟨rfl, .inl ⟨rfl, by rw [hi]; rfl⟩⟩
    refine V_less (.put 0 p (.put 1 (.func g caps) (.put 7 _ (.put 8 _ .nil)))) (less_put h0 (less_put h1 (less_put h7 (less_put h8 less_nil)))) (V_unroll ?_)
    repeat' first | refine out _ _ _ rfl | refine V_O rfl ?_ | refine O_step rfl ?_ | refine O_nil' ?_ | refine V_cT rfl rfl ?_ | refine V_cF rfl rfl ?_ | refine V_cEq rfl rfl ?_ | refine V_cNe rfl rfl ?_ | refine V_cB rfl rfl (fun _ => ?_) (fun _ => ?_) | refine O_gT' rfl ?_ | refine O_gU' rfl ?_ | refine O_gF' rfl rfl ?_ | refine O_gEq rfl ?_ | refine O_gNe rfl ?_ | refine O_gS rfl (fun _ => ?_) (fun _ => ?_) | refine V_fA rfl rfl ?_ | refine V_fAN rfl rfl ?_ | refine V_D rfl ?_ | refine D_step rfl ?_ | refine D_nil' ?_ | refine D_gT' rfl ?_ | refine D_gU' rfl ?_ | refine D_gF' rfl rfl ?_ | refine D_gS rfl (fun _ => ?_) (fun _ => ?_)
    all_goals (exfalso; clear out; subst ha; simp at *)
  | cons y ra ihr =>
    intro pre e ha hi h0 h1 h7 h8
    refine V_less (.put 0 p (.put 1 (.func g caps) (.put 7 _ (.put 8 _ .nil)))) (less_put h0 (less_put h1 (less_put h7 (less_put h8 less_nil)))) (V_unroll ?_)
    have hy : l[pre.length]? = some y := by subst ha; simp
    obtain ⟨cy, ay, vy⟩ := hp.at hy
    have ply := vy.pl
    have hcall := hm _ y cy hy ay
    have hvl : ViewL false emptySt.get ([PV.agg cy] ++ caps) (.agg cy :: caps) := viewL_pl (pl_cons (.agg _ ply) plc)
    cases hyP : P y with
    | false =>
      rw [hyP] at hcall
      have fin : ∀ (fr : List Fr) (x : EX) (e' : EC), adv 200 fr x = ([.code (.loop lp_slices_IndexFunc_api_Value_0)], .normal) → e'.get 0 = some p → e'.get 1 = some (.func g caps) → e'.get 7 = some (.int .i64 l.length) → e'.get 8 = some (.int .i64 (IntKind.i64.wrap (pre.length + 1))) → V T (PE (idxP P l)) fr x e' emptySt := fun fr x e' hadv g0 g1 g7 g8 => V_adv hadv (by
        have hlt : pre.length < l.length := by subst ha; simp
        have hw : IntKind.i64.wrap (pre.length + 1) = ((pre ++ [y]).length : Int) := by rw [wrap_i64]; simp; omega
        rw [hw] at g8
        exact ihr (pre ++ [y]) e' (by rw [ha]; simp) (by rw [hi]; simp [idxV, hyP]) g0 g1 g7 g8)
      repeat' first | refine O_at rfl rfl ay ?_ | refine O_loadA rfl vy.len4 ?_ | refine O_callP rfl rfl hvl hcall ?_ | refine fin _ _ _ rfl rfl rfl rfl rfl | refine V_O rfl ?_ | refine O_step rfl ?_ | refine O_nil' ?_ | refine V_cT rfl rfl ?_ | refine V_cF rfl rfl ?_ | refine V_cEq rfl rfl ?_ | refine V_cNe rfl rfl ?_ | refine V_cB rfl rfl (fun _ => ?_) (fun _ => ?_) | refine O_gT' rfl ?_ | refine O_gU' rfl ?_ | refine O_gF' rfl rfl ?_ | refine O_gEq rfl ?_ | refine O_gNe rfl ?_ | refine O_gS rfl (fun _ => ?_) (fun _ => ?_) | refine V_fA rfl rfl ?_ | refine V_fAN rfl rfl ?_ | refine V_D rfl ?_ | refine D_step rfl ?_ | refine D_nil' ?_ | refine D_gT' rfl ?_ | refine D_gU' rfl ?_ | refine D_gF' rfl rfl ?_ | refine D_gS rfl (fun _ => ?_) (fun _ => ?_)
      all_goals (exfalso; clear fin ihr hcall hm; subst ha; simp at *; try omega)
    | true =>
      rw [hyP] at hcall
      have ret : ∀ (fr : List Fr) (x : EX) (e' : EC), adv 200 fr x = ([], .ret) → e'.get 4 = some (.int .i64 pre.length) → V T (PE (idxP P l)) fr x e' emptySt := fun fr x e' hadv g0 =>
        V_less (.put 4 _ .nil) (less_put g0 less_nil) (V_endP hadv ⟨rfl, .inr ⟨rfl, by rw [hi]; simp [idxV, hyP]⟩⟩)
      repeat' first | refine O_at rfl rfl ay ?_ | refine O_loadA rfl vy.len4 ?_ | refine O_callP rfl rfl hvl hcall ?_ | refine ret _ _ _ rfl rfl | refine V_O rfl ?_ | refine O_step rfl ?_ | refine O_nil' ?_ | refine V_cT rfl rfl ?_ | refine V_cF rfl rfl ?_ | refine V_cEq rfl rfl ?_ | refine V_cNe rfl rfl ?_ | refine V_cB rfl rfl (fun _ => ?_) (fun _ => ?_) | refine O_gT' rfl ?_ | refine O_gU' rfl ?_ | refine O_gF' rfl rfl ?_ | refine O_gEq rfl ?_ | refine O_gNe rfl ?_ | refine O_gS rfl (fun _ => ?_) (fun _ => ?_) | refine V_fA rfl rfl ?_ | refine V_fAN rfl rfl ?_ | refine V_D rfl ?_ | refine D_step rfl ?_ | refine D_nil' ?_ | refine D_gT' rfl ?_ | refine D_gU' rfl ?_ | refine D_gF' rfl rfl ?_ | refine D_gS rfl (fun _ => ?_) (fun _ => ?_)
      all_goals (exfalso; clear ihr ret hcall hm; subst ha; simp at *; try omega)
theorem run_IndexFunc (P : Val → Bool) (g : Nat) (caps : List PV) (plc : ∀ c ∈ caps, Pl c) (l : List Val) (p : PV) (hp : LC l p)
    (hm : ∀ (j : Nat) (v : Val) (cs : List PV), l[j]? = some v → At 4 p j cs → T.R (.call g (.agg cs :: caps) (.bool (P v)))) :
    T.R (.call n_slices_IndexFunc_api_Value [p, .func g caps] (.int .i64 (idxV P l 0))) := by
  obtain ⟨lp1, lp2, lp3⟩ := hp.len
  have hl := fun e h0 h1 h2 h3 => idx_loop P g caps plc l p hp hm l [] e rfl rfl h0 h1 h2 h3
  refine call_V rfl rfl ?_
  repeat' first | refine O_lenO rfl lp1 lp2 ?_ | refine V_cutA rfl (hl _ rfl rfl rfl rfl) ?_ | refine V_O rfl ?_ | refine O_step rfl ?_ | refine O_nil' ?_ | refine V_cT rfl rfl ?_ | refine V_cF rfl rfl ?_ | refine V_cEq rfl rfl ?_ | refine V_cNe rfl rfl ?_ | refine V_cB rfl rfl (fun _ => ?_) (fun _ => ?_) | refine O_gT' rfl ?_ | refine O_gU' rfl ?_ | refine O_gF' rfl rfl ?_ | refine O_gEq rfl ?_ | refine O_gNe rfl ?_ | refine O_gS rfl (fun _ => ?_) (fun _ => ?_) | refine V_fA rfl rfl ?_ | refine V_fAN rfl rfl ?_ | refine V_D rfl ?_ | refine D_step rfl ?_ | refine D_nil' ?_ | refine D_gT' rfl ?_ | refine D_gU' rfl ?_ | refine D_gF' rfl rfl ?_ | refine D_gS rfl (fun _ => ?_) (fun _ => ?_)
  rintro x e' st' ⟨rfl, ⟨rfl, h⟩ | ⟨rfl, rfl⟩⟩
  · repeat' first | refine V_O rfl ?_ | refine O_step rfl ?_ | refine O_nil' ?_ | refine V_cT rfl rfl ?_ | refine V_cF rfl rfl ?_ | refine V_cEq rfl rfl ?_ | refine V_cNe rfl rfl ?_ | refine V_cB rfl rfl (fun _ => ?_) (fun _ => ?_) | refine O_gT' rfl ?_ | refine O_gU' rfl ?_ | refine O_gF' rfl rfl ?_ | refine O_gEq rfl ?_ | refine O_gNe rfl ?_ | refine O_gS rfl (fun _ => ?_) (fun _ => ?_) | refine V_fA rfl rfl ?_ | refine V_fAN rfl rfl ?_ | refine V_D rfl ?_ | refine D_step rfl ?_ | refine D_nil' ?_ | refine D_gT' rfl ?_ | refine D_gU' rfl ?_ | refine D_gF' rfl rfl ?_ | refine D_gS rfl (fun _ => ?_) (fun _ => ?_)
    rw [h]
  · repeat' first | refine V_O rfl ?_ | refine O_step rfl ?_ | refine O_nil' ?_ | refine V_cT rfl rfl ?_ | refine V_cF rfl rfl ?_ | refine V_cEq rfl rfl ?_ | refine V_cNe rfl rfl ?_ | refine V_cB rfl rfl (fun _ => ?_) (fun _ => ?_) | refine O_gT' rfl ?_ | refine O_gU' rfl ?_ | refine O_gF' rfl rfl ?_ | refine O_gEq rfl ?_ | refine O_gNe rfl ?_ | refine O_gS rfl (fun _ => ?_) (fun _ => ?_) | refine V_fA rfl rfl ?_ | refine V_fAN rfl rfl ?_ | refine V_D rfl ?_ | refine D_step rfl ?_ | refine D_nil' ?_ | refine D_gT' rfl ?_ | refine D_gU' rfl ?_ | refine D_gF' rfl rfl ?_ | refine D_gS rfl (fun _ => ?_) (fun _ => ?_)
    rfl
theorem run_ContainsFunc (P : Val → Bool) (g : Nat) (caps : List PV) (plc : ∀ c ∈ caps, Pl c) (l : List Val) (p : PV) (hp : LC l p)
    (hm : ∀ (j : Nat) (v : Val) (cs : List PV), l[j]? = some v → At 4 p j cs → T.R (.call g (.agg cs :: caps) (.bool (P v)))) :
    T.R (.call n_slices_ContainsFunc_api_Value [p, .func g caps] (.bool (l.any P))) := by
  have h := run_IndexFunc P g caps plc l p hp hm
  have plp := hp.pl
  rw [← idxV_any P l 0]
  generalize idxV P l 0 = r at h ⊢
  refine call_V rfl rfl ?_
  repeat' first | refine O_cA rfl rfl h ?_ | refine V_O rfl ?_ | refine O_step rfl ?_ | refine O_nil' ?_ | refine V_cT rfl rfl ?_ | refine V_cF rfl rfl ?_ | refine V_cEq rfl rfl ?_ | refine V_cNe rfl rfl ?_ | refine V_cB rfl rfl (fun _ => ?_) (fun _ => ?_) | refine O_gT' rfl ?_ | refine O_gU' rfl ?_ | refine O_gF' rfl rfl ?_ | refine O_gEq rfl ?_ | refine O_gNe rfl ?_ | refine O_gS rfl (fun _ => ?_) (fun _ => ?_) | refine V_fA rfl rfl ?_ | refine V_fAN rfl rfl ?_ | refine V_D rfl ?_ | refine D_step rfl ?_ | refine D_nil' ?_ | refine D_gT' rfl ?_ | refine D_gU' rfl ?_ | refine D_gF' rfl rfl ?_ | refine D_gS rfl (fun _ => ?_) (fun _ => ?_)
  all_goals rfl
end Go.Proofs.YtinojffgmgjblaaGreatDoor

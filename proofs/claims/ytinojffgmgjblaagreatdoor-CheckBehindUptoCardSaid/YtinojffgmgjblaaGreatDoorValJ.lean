/- rambleref02.all, rises; both may, both Check. -/
import Derived.Test.YtinojffgmgjblaaGreatDoorValF
import Derived.Test.YtinojffgmgjblaaGreatDoorValH
import Derived.Test.YtinojffgmgjblaaGreatDoorValI
set_option linter.unusedVariables false
set_option linter.unusedSimpArgs false
namespace Go.Proofs.YtinojffgmgjblaaGreatDoor
open Go Go.AM Go.RowKit
def allP (P : Val → Bool) (l : List Val) : EX → EC → St → Prop := fun x e' st' => st' = emptySt ∧ ((x = .exit 0 ∧ l.all P = true) ∨ (x = .ret ∧ e' = .put 4 (.bool false) .nil ∧ l.all P = false))
theorem all2_loop (P : Val → Bool) (d : Int) (l : List Val) (p : PV) (hp : LC l p)
    (hm : ∀ (j : Nat) (v : Val) (cs : List PV), l[j]? = some v → At 4 p j cs → T.R (.call n_rambleref02_may [.agg cs, .int .i64 (IntKind.i64.wrap (d + 1))] (.bool (P v)))) :
    ∀ (ra pre : List Val) (e : EC), l = pre ++ ra → l.all P = ra.all P → e.get 0 = some p → e.get 1 = some (.int .i64 d) → e.get 5 = some (.int .i64 pre.length) →
    V T (PE (allP P l)) [.code (.loop lp_rambleref02_all_0)] .normal e emptySt := by
  obtain ⟨lp1, lp2, lp3⟩ := hp.len
  intro ra
  induction ra with
  | nil =>
    intro pre e ha hi h0 h1 h5
    have out : ∀ (fr : List Fr) (x : EX) (e' : EC), adv 200 fr x = ([], .exit 0) → V T (PE (allP P l)) fr x e' emptySt := fun fr x e' hadv => V_endP hadv ⟨rfl, .inl ⟨rfl, by rw [hi]; rfl⟩⟩
    refine V_less (.put 0 p (.put 1 _ (.put 5 _ .nil))) (less_put h0 (less_put h1 (less_put h5 less_nil))) (V_unroll ?_)
    repeat' first | refine O_lenO rfl lp1 lp2 ?_ | refine out _ _ _ rfl | refine V_O rfl ?_ | refine O_step rfl ?_ | refine O_nil' ?_ | refine V_cT rfl rfl ?_ | refine V_cF rfl rfl ?_ | refine V_cEq rfl rfl ?_ | refine V_cNe rfl rfl ?_ | refine V_cB rfl rfl (fun _ => ?_) (fun _ => ?_) | refine O_gT' rfl ?_ | refine O_gU' rfl ?_ | refine O_gF' rfl rfl ?_ | refine O_gEq rfl ?_ | refine O_gNe rfl ?_ | refine O_gS rfl (fun _ => ?_) (fun _ => ?_) | refine V_fA rfl rfl ?_ | refine V_fAN rfl rfl ?_ | refine V_D rfl ?_ | refine D_step rfl ?_ | refine D_nil' ?_ | refine D_gT' rfl ?_ | refine D_gU' rfl ?_ | refine D_gF' rfl rfl ?_ | refine D_gS rfl (fun _ => ?_) (fun _ => ?_)
    all_goals (exfalso; clear out; subst ha; simp at *)
  | cons y ra ihr =>
    intro pre e ha hi h0 h1 h5
    refine V_less (.put 0 p (.put 1 _ (.put 5 _ .nil))) (less_put h0 (less_put h1 (less_put h5 less_nil))) (V_unroll ?_)
    have hy : l[pre.length]? = some y := by subst ha; simp
    obtain ⟨cy, ay, vy⟩ := hp.at hy
    have ply := vy.pl
    have hcall := hm _ y cy hy ay
    cases hyP : P y with
    | true =>
      rw [hyP] at hcall
      have fin : ∀ (fr : List Fr) (x : EX) (e' : EC), adv 200 fr x = ([.code (.loop lp_rambleref02_all_0)], .normal) → e'.get 0 = some p → e'.get 1 = some (.int .i64 d) → e'.get 5 = some (.int .i64 (IntKind.i64.wrap (pre.length + 1))) → V T (PE (allP P l)) fr x e' emptySt := fun fr x e' hadv g0 g1 g5 => V_adv hadv (by
        have hlt : pre.length < l.length := by subst ha; simp
        have hw : IntKind.i64.wrap (pre.length + 1) = ((pre ++ [y]).length : Int) := by rw [wrap_i64]; simp; omega
        rw [hw] at g5
        exact ihr (pre ++ [y]) e' (by rw [ha]; simp) (by rw [hi]; simp [hyP]) g0 g1 g5)
      repeat' first | refine O_lenO rfl lp1 lp2 ?_ | refine O_at rfl rfl ay ?_ | refine O_loadA rfl vy.len4 ?_ | refine O_cA rfl rfl hcall ?_ | refine fin _ _ _ rfl rfl rfl rfl | refine V_O rfl ?_ | refine O_step rfl ?_ | refine O_nil' ?_ | refine V_cT rfl rfl ?_ | refine V_cF rfl rfl ?_ | refine V_cEq rfl rfl ?_ | refine V_cNe rfl rfl ?_ | refine V_cB rfl rfl (fun _ => ?_) (fun _ => ?_) | refine O_gT' rfl ?_ | refine O_gU' rfl ?_ | refine O_gF' rfl rfl ?_ | refine O_gEq rfl ?_ | refine O_gNe rfl ?_ | refine O_gS rfl (fun _ => ?_) (fun _ => ?_) | refine V_fA rfl rfl ?_ | refine V_fAN rfl rfl ?_ | refine V_D rfl ?_ | refine D_step rfl ?_ | refine D_nil' ?_ | refine D_gT' rfl ?_ | refine D_gU' rfl ?_ | refine D_gF' rfl rfl ?_ | refine D_gS rfl (fun _ => ?_) (fun _ => ?_)
      all_goals (exfalso; clear fin ihr hcall hm; subst ha; simp at *; try omega)
    | false =>
      rw [hyP] at hcall
      have ret : ∀ (fr : List Fr) (x : EX) (e' : EC), adv 200 fr x = ([], .ret) → e'.get 4 = some (.bool false) → V T (PE (allP P l)) fr x e' emptySt := fun fr x e' hadv g0 =>
        V_less (.put 4 _ .nil) (less_put g0 less_nil) (V_endP hadv ⟨rfl, .inr ⟨rfl, rfl, by rw [hi]; simp [hyP]⟩⟩)
      repeat' first | refine O_lenO rfl lp1 lp2 ?_ | refine O_at rfl rfl ay ?_ | refine O_loadA rfl vy.len4 ?_ | refine O_cA rfl rfl hcall ?_ | refine ret _ _ _ rfl rfl | refine V_O rfl ?_ | refine O_step rfl ?_ | refine O_nil' ?_ | refine V_cT rfl rfl ?_ | refine V_cF rfl rfl ?_ | refine V_cEq rfl rfl ?_ | refine V_cNe rfl rfl ?_ | refine V_cB rfl rfl (fun _ => ?_) (fun _ => ?_) | refine O_gT' rfl ?_ | refine O_gU' rfl ?_ | refine O_gF' rfl rfl ?_ | refine O_gEq rfl ?_ | refine O_gNe rfl ?_ | refine O_gS rfl (fun _ => ?_) (fun _ => ?_) | refine V_fA rfl rfl ?_ | refine V_fAN rfl rfl ?_ | refine V_D rfl ?_ | refine D_step rfl ?_ | refine D_nil' ?_ | refine D_gT' rfl ?_ | refine D_gU' rfl ?_ | refine D_gF' rfl rfl ?_ | refine D_gS rfl (fun _ => ?_) (fun _ => ?_)
      all_goals (exfalso; clear ihr ret hcall hm; subst ha; simp at *; try omega)
theorem run_all2 (P : Val → Bool) (d : Int) (l : List Val) (p : PV) (hp : LC l p)
    (hm : ∀ (j : Nat) (v : Val) (cs : List PV), l[j]? = some v → At 4 p j cs → T.R (.call n_rambleref02_may [.agg cs, .int .i64 (IntKind.i64.wrap (d + 1))] (.bool (P v)))) :
    T.R (.call n_rambleref02_all [p, .int .i64 d] (.bool (l.all P))) := by
  have hl := fun e h0 h1 h2 => all2_loop P d l p hp hm l [] e rfl rfl h0 h1 h2
  generalize hr : l.all P = r at hl ⊢
  refine call_V rfl rfl ?_
  repeat' first | refine V_cutA rfl (hl _ rfl rfl rfl) ?_ | refine V_O rfl ?_ | refine O_step rfl ?_ | refine O_nil' ?_ | refine V_cT rfl rfl ?_ | refine V_cF rfl rfl ?_ | refine V_cEq rfl rfl ?_ | refine V_cNe rfl rfl ?_ | refine V_cB rfl rfl (fun _ => ?_) (fun _ => ?_) | refine O_gT' rfl ?_ | refine O_gU' rfl ?_ | refine O_gF' rfl rfl ?_ | refine O_gEq rfl ?_ | refine O_gNe rfl ?_ | refine O_gS rfl (fun _ => ?_) (fun _ => ?_) | refine V_fA rfl rfl ?_ | refine V_fAN rfl rfl ?_ | refine V_D rfl ?_ | refine D_step rfl ?_ | refine D_nil' ?_ | refine D_gT' rfl ?_ | refine D_gU' rfl ?_ | refine D_gF' rfl rfl ?_ | refine D_gS rfl (fun _ => ?_) (fun _ => ?_)
  rintro x e' st' ⟨rfl, ⟨rfl, h⟩ | ⟨rfl, rfl, h⟩⟩
  · repeat' first | refine V_O rfl ?_ | refine O_step rfl ?_ | refine O_nil' ?_ | refine V_cT rfl rfl ?_ | refine V_cF rfl rfl ?_ | refine V_cEq rfl rfl ?_ | refine V_cNe rfl rfl ?_ | refine V_cB rfl rfl (fun _ => ?_) (fun _ => ?_) | refine O_gT' rfl ?_ | refine O_gU' rfl ?_ | refine O_gF' rfl rfl ?_ | refine O_gEq rfl ?_ | refine O_gNe rfl ?_ | refine O_gS rfl (fun _ => ?_) (fun _ => ?_) | refine V_fA rfl rfl ?_ | refine V_fAN rfl rfl ?_ | refine V_D rfl ?_ | refine D_step rfl ?_ | refine D_nil' ?_ | refine D_gT' rfl ?_ | refine D_gU' rfl ?_ | refine D_gF' rfl rfl ?_ | refine D_gS rfl (fun _ => ?_) (fun _ => ?_)
    rw [← hr, h]
  · repeat' first | refine V_O rfl ?_ | refine O_step rfl ?_ | refine O_nil' ?_ | refine V_cT rfl rfl ?_ | refine V_cF rfl rfl ?_ | refine V_cEq rfl rfl ?_ | refine V_cNe rfl rfl ?_ | refine V_cB rfl rfl (fun _ => ?_) (fun _ => ?_) | refine O_gT' rfl ?_ | refine O_gU' rfl ?_ | refine O_gF' rfl rfl ?_ | refine O_gEq rfl ?_ | refine O_gNe rfl ?_ | refine O_gS rfl (fun _ => ?_) (fun _ => ?_) | refine V_fA rfl rfl ?_ | refine V_fAN rfl rfl ?_ | refine V_D rfl ?_ | refine D_step rfl ?_ | refine D_nil' ?_ | refine D_gT' rfl ?_ | refine D_gU' rfl ?_ | refine D_gF' rfl rfl ?_ | refine D_gS rfl (fun _ => ?_) (fun _ => ?_)
    rw [← hr, h]
def rise2P (l : List Val) : EX → EC → St → Prop := fun x e' st' => st' = emptySt ∧ ((x = .exit 0 ∧ risesV l = true) ∨ (x = .ret ∧ e' = .put 2 (.bool false) .nil ∧ risesV l = false))
theorem rise2_loop (l : List Val) (p : PV) (hp : LC l p) :
    ∀ (m : Nat) (ra pre : List Val) (e : EC), ra.length ≤ m → l = pre ++ ra → risesV l = risesV ra → (ra ≠ [] ∨ l = []) → e.get 0 = some p → e.get 3 = some (.int .i64 (pre.length + 2)) →
    V T (PE (rise2P l)) [.code (.loop lp_rambleref02_rises_0)] .normal e emptySt := by
  obtain ⟨lp1, lp2, lp3⟩ := hp.len
  intro m
  induction m with
  | zero =>
    intro ra pre e hm hl hr hne h0 h3
    have hra : ra = [] := by cases ra with
      | nil => rfl
      | cons y ra => simp at hm
    have hl0 : l = [] := by rcases hne with h | h
                            · exact absurd hra h
                            · exact h
    have hpre : pre = [] := by rw [hl0] at hl; simp at hl; exact hl.1
    have out : ∀ (fr : List Fr) (x : EX) (e' : EC), adv 200 fr x = ([], .exit 0) → V T (PE (rise2P l)) fr x e' emptySt := fun fr x e' hadv => V_endP hadv ⟨rfl, .inl ⟨rfl, by rw [hl0]; rfl⟩⟩
    refine V_less (.put 0 p (.put 3 _ .nil)) (less_put h0 (less_put h3 less_nil)) (V_unroll ?_)
    repeat' first | refine O_lenO rfl lp1 lp2 ?_ | refine out _ _ _ rfl | refine V_O rfl ?_ | refine O_step rfl ?_ | refine O_nil' ?_ | refine V_cT rfl rfl ?_ | refine V_cF rfl rfl ?_ | refine V_cEq rfl rfl ?_ | refine V_cNe rfl rfl ?_ | refine V_cB rfl rfl (fun _ => ?_) (fun _ => ?_) | refine O_gT' rfl ?_ | refine O_gU' rfl ?_ | refine O_gF' rfl rfl ?_ | refine O_gEq rfl ?_ | refine O_gNe rfl ?_ | refine O_gS rfl (fun _ => ?_) (fun _ => ?_) | refine V_fA rfl rfl ?_ | refine V_fAN rfl rfl ?_ | refine V_D rfl ?_ | refine D_step rfl ?_ | refine D_nil' ?_ | refine D_gT' rfl ?_ | refine D_gU' rfl ?_ | refine D_gF' rfl rfl ?_ | refine D_gS rfl (fun _ => ?_) (fun _ => ?_)
    all_goals (exfalso; clear out; subst hl0 hpre; simp at *)
  | succ m ihr =>
    intro ra pre e hm hl hr hne h0 h3
    match ra, hm, hl, hr, hne with
    | [], hm, hl, hr, hne => exact ihr [] pre e (by simp) hl hr hne h0 h3
    | [y], hm, hl, hr, hne =>
      have out : ∀ (fr : List Fr) (x : EX) (e' : EC), adv 200 fr x = ([], .exit 0) → V T (PE (rise2P l)) fr x e' emptySt := fun fr x e' hadv => V_endP hadv ⟨rfl, .inl ⟨rfl, by rw [hr]; rfl⟩⟩
      refine V_less (.put 0 p (.put 3 _ .nil)) (less_put h0 (less_put h3 less_nil)) (V_unroll ?_)
      repeat' first | refine O_lenO rfl lp1 lp2 ?_ | refine out _ _ _ rfl | refine V_O rfl ?_ | refine O_step rfl ?_ | refine O_nil' ?_ | refine V_cT rfl rfl ?_ | refine V_cF rfl rfl ?_ | refine V_cEq rfl rfl ?_ | refine V_cNe rfl rfl ?_ | refine V_cB rfl rfl (fun _ => ?_) (fun _ => ?_) | refine O_gT' rfl ?_ | refine O_gU' rfl ?_ | refine O_gF' rfl rfl ?_ | refine O_gEq rfl ?_ | refine O_gNe rfl ?_ | refine O_gS rfl (fun _ => ?_) (fun _ => ?_) | refine V_fA rfl rfl ?_ | refine V_fAN rfl rfl ?_ | refine V_D rfl ?_ | refine D_step rfl ?_ | refine D_nil' ?_ | refine D_gT' rfl ?_ | refine D_gU' rfl ?_ | refine D_gF' rfl rfl ?_ | refine D_gS rfl (fun _ => ?_) (fun _ => ?_)
      all_goals (exfalso; clear out; subst hl; simp at *; try omega)
    | [y, z], hm, hl, hr, hne =>
      have out : ∀ (fr : List Fr) (x : EX) (e' : EC), adv 200 fr x = ([], .exit 0) → V T (PE (rise2P l)) fr x e' emptySt := fun fr x e' hadv => V_endP hadv ⟨rfl, .inl ⟨rfl, by rw [hr]; rfl⟩⟩
      refine V_less (.put 0 p (.put 3 _ .nil)) (less_put h0 (less_put h3 less_nil)) (V_unroll ?_)
      repeat' first | refine O_lenO rfl lp1 lp2 ?_ | refine out _ _ _ rfl | refine V_O rfl ?_ | refine O_step rfl ?_ | refine O_nil' ?_ | refine V_cT rfl rfl ?_ | refine V_cF rfl rfl ?_ | refine V_cEq rfl rfl ?_ | refine V_cNe rfl rfl ?_ | refine V_cB rfl rfl (fun _ => ?_) (fun _ => ?_) | refine O_gT' rfl ?_ | refine O_gU' rfl ?_ | refine O_gF' rfl rfl ?_ | refine O_gEq rfl ?_ | refine O_gNe rfl ?_ | refine O_gS rfl (fun _ => ?_) (fun _ => ?_) | refine V_fA rfl rfl ?_ | refine V_fAN rfl rfl ?_ | refine V_D rfl ?_ | refine D_step rfl ?_ | refine D_nil' ?_ | refine D_gT' rfl ?_ | refine D_gU' rfl ?_ | refine D_gF' rfl rfl ?_ | refine D_gS rfl (fun _ => ?_) (fun _ => ?_)
      all_goals (exfalso; clear out; subst hl; simp at *)
    | y :: z :: w :: ra, hm, hl, hr, hne =>
      have hlt : pre.length + 2 < l.length := by subst hl; simp
      have hy : l[pre.length]? = some y := by subst hl; simp
      have hw : l[pre.length + 2]? = some w := by subst hl; simp
      obtain ⟨cy, ay, vy⟩ := hp.at hy
      obtain ⟨cw, aw, vw⟩ := hp.at hw
      have ply := vy.pl
      have plw := vw.pl
      have hcall := run_Compare2 vy w cw vw
      have ay' : At 4 p (IntKind.i64.wrap ((pre.length : Int) + 2 - 2)) cy := by
        have : IntKind.i64.wrap ((pre.length : Int) + 2 - 2) = (pre.length : Int) := by rw [wrap_i64]; omega
        rw [this]; exact ay
      have aw' : At 4 p ((pre.length : Int) + 2) cw := by
        have : ((pre.length + 2 : Nat) : Int) = (pre.length : Int) + 2 := by omega
        rw [← this]; exact aw
      have hr' : risesV l = (decide (cmpV y w < 0) && risesV (w :: ra)) := by rw [hr]; rfl
      generalize cmpV y w = r at hcall hr'
      by_cases hrr : r < 0
      · have fin : ∀ (fr : List Fr) (x : EX) (e' : EC), adv 200 fr x = ([.code (.loop lp_rambleref02_rises_0)], .normal) → e'.get 0 = some p → e'.get 3 = some (.int .i64 (IntKind.i64.wrap ((pre.length : Int) + 2 + 2))) → V T (PE (rise2P l)) fr x e' emptySt := fun fr x e' hadv g0 g3 => V_adv hadv (by
          have hw : IntKind.i64.wrap ((pre.length : Int) + 2 + 2) = ((pre ++ [y, z]).length : Int) + 2 := by rw [wrap_i64]; simp; omega
          rw [hw] at g3
          exact ihr (w :: ra) (pre ++ [y, z]) e' (by simp at hm ⊢; omega) (by rw [hl]; simp) (by rw [hr', decide_eq_true hrr]; rfl) (.inl (by simp)) g0 g3)
        refine V_less (.put 0 p (.put 3 _ .nil)) (less_put h0 (less_put h3 less_nil)) (V_unroll ?_)
        repeat' first | refine O_lenO rfl lp1 lp2 ?_ | refine D_at rfl rfl ay' ?_ | refine D_at rfl rfl aw' ?_ | refine D_loadA rfl vy.len4 ?_ | refine D_loadA rfl vw.len4 ?_ | refine D_cA rfl rfl hcall ?_ | refine fin _ _ _ rfl rfl rfl | refine V_O rfl ?_ | refine O_step rfl ?_ | refine O_nil' ?_ | refine V_cT rfl rfl ?_ | refine V_cF rfl rfl ?_ | refine V_cEq rfl rfl ?_ | refine V_cNe rfl rfl ?_ | refine V_cB rfl rfl (fun _ => ?_) (fun _ => ?_) | refine O_gT' rfl ?_ | refine O_gU' rfl ?_ | refine O_gF' rfl rfl ?_ | refine O_gEq rfl ?_ | refine O_gNe rfl ?_ | refine O_gS rfl (fun _ => ?_) (fun _ => ?_) | refine V_fA rfl rfl ?_ | refine V_fAN rfl rfl ?_ | refine V_D rfl ?_ | refine D_step rfl ?_ | refine D_nil' ?_ | refine D_gT' rfl ?_ | refine D_gU' rfl ?_ | refine D_gF' rfl rfl ?_ | refine D_gS rfl (fun _ => ?_) (fun _ => ?_)
        all_goals (exfalso; clear fin ihr hcall; simp at *; try omega)
      · have ret : ∀ (fr : List Fr) (x : EX) (e' : EC), adv 200 fr x = ([], .ret) → e'.get 2 = some (.bool false) → V T (PE (rise2P l)) fr x e' emptySt := fun fr x e' hadv g0 =>
          V_less (.put 2 _ .nil) (less_put g0 less_nil) (V_endP hadv ⟨rfl, .inr ⟨rfl, rfl, by rw [hr', decide_eq_false hrr]; rfl⟩⟩)
        refine V_less (.put 0 p (.put 3 _ .nil)) (less_put h0 (less_put h3 less_nil)) (V_unroll ?_)
        repeat' first | refine O_lenO rfl lp1 lp2 ?_ | refine D_at rfl rfl ay' ?_ | refine D_at rfl rfl aw' ?_ | refine D_loadA rfl vy.len4 ?_ | refine D_loadA rfl vw.len4 ?_ | refine D_cA rfl rfl hcall ?_ | refine ret _ _ _ rfl rfl | refine V_O rfl ?_ | refine O_step rfl ?_ | refine O_nil' ?_ | refine V_cT rfl rfl ?_ | refine V_cF rfl rfl ?_ | refine V_cEq rfl rfl ?_ | refine V_cNe rfl rfl ?_ | refine V_cB rfl rfl (fun _ => ?_) (fun _ => ?_) | refine O_gT' rfl ?_ | refine O_gU' rfl ?_ | refine O_gF' rfl rfl ?_ | refine O_gEq rfl ?_ | refine O_gNe rfl ?_ | refine O_gS rfl (fun _ => ?_) (fun _ => ?_) | refine V_fA rfl rfl ?_ | refine V_fAN rfl rfl ?_ | refine V_D rfl ?_ | refine D_step rfl ?_ | refine D_nil' ?_ | refine D_gT' rfl ?_ | refine D_gU' rfl ?_ | refine D_gF' rfl rfl ?_ | refine D_gS rfl (fun _ => ?_) (fun _ => ?_)
        all_goals (exfalso; clear ihr ret hcall; simp at *; try omega)
theorem run_rises2 (l : List Val) (p : PV) (hp : LC l p) : T.R (.call n_rambleref02_rises [p] (.bool (risesV l))) := by
  have hl := fun e h0 h1 => rise2_loop l p hp l.length l [] e (Nat.le_refl _) rfl rfl (by cases l <;> simp) h0 h1
  generalize hr : risesV l = r at hl ⊢
  refine call_V rfl rfl ?_
  repeat' first | refine V_cutA rfl (hl _ rfl rfl) ?_ | refine V_O rfl ?_ | refine O_step rfl ?_ | refine O_nil' ?_ | refine V_cT rfl rfl ?_ | refine V_cF rfl rfl ?_ | refine V_cEq rfl rfl ?_ | refine V_cNe rfl rfl ?_ | refine V_cB rfl rfl (fun _ => ?_) (fun _ => ?_) | refine O_gT' rfl ?_ | refine O_gU' rfl ?_ | refine O_gF' rfl rfl ?_ | refine O_gEq rfl ?_ | refine O_gNe rfl ?_ | refine O_gS rfl (fun _ => ?_) (fun _ => ?_) | refine V_fA rfl rfl ?_ | refine V_fAN rfl rfl ?_ | refine V_D rfl ?_ | refine D_step rfl ?_ | refine D_nil' ?_ | refine D_gT' rfl ?_ | refine D_gU' rfl ?_ | refine D_gF' rfl rfl ?_ | refine D_gS rfl (fun _ => ?_) (fun _ => ?_)
  rintro x e' st' ⟨rfl, ⟨rfl, h⟩ | ⟨rfl, rfl, h⟩⟩
  · repeat' first | refine V_O rfl ?_ | refine O_step rfl ?_ | refine O_nil' ?_ | refine V_cT rfl rfl ?_ | refine V_cF rfl rfl ?_ | refine V_cEq rfl rfl ?_ | refine V_cNe rfl rfl ?_ | refine V_cB rfl rfl (fun _ => ?_) (fun _ => ?_) | refine O_gT' rfl ?_ | refine O_gU' rfl ?_ | refine O_gF' rfl rfl ?_ | refine O_gEq rfl ?_ | refine O_gNe rfl ?_ | refine O_gS rfl (fun _ => ?_) (fun _ => ?_) | refine V_fA rfl rfl ?_ | refine V_fAN rfl rfl ?_ | refine V_D rfl ?_ | refine D_step rfl ?_ | refine D_nil' ?_ | refine D_gT' rfl ?_ | refine D_gU' rfl ?_ | refine D_gF' rfl rfl ?_ | refine D_gS rfl (fun _ => ?_) (fun _ => ?_)
    rw [← hr, h]
  · repeat' first | refine V_O rfl ?_ | refine O_step rfl ?_ | refine O_nil' ?_ | refine V_cT rfl rfl ?_ | refine V_cF rfl rfl ?_ | refine V_cEq rfl rfl ?_ | refine V_cNe rfl rfl ?_ | refine V_cB rfl rfl (fun _ => ?_) (fun _ => ?_) | refine O_gT' rfl ?_ | refine O_gU' rfl ?_ | refine O_gF' rfl rfl ?_ | refine O_gEq rfl ?_ | refine O_gNe rfl ?_ | refine O_gS rfl (fun _ => ?_) (fun _ => ?_) | refine V_fA rfl rfl ?_ | refine V_fAN rfl rfl ?_ | refine V_D rfl ?_ | refine D_step rfl ?_ | refine D_nil' ?_ | refine D_gT' rfl ?_ | refine D_gU' rfl ?_ | refine D_gF' rfl rfl ?_ | refine D_gS rfl (fun _ => ?_) (fun _ => ?_)
    rw [← hr, h]
theorem LC.el {l : List Val} {p : PV} (h : LC l p) {j : Nat} {v : Val} {cs : List PV} (hv : l[j]? = some v) (ha : At 4 p j cs) : VC v cs := by
  obtain ⟨cs', ha', hc⟩ := h.at hv
  obtain ⟨_, _, xs, f, rfl, h1⟩ := ha
  obtain ⟨_, _, ys, g, he, h2⟩ := ha'
  injection he with he1 he2
  subst he1
  rw [h1] at h2
  injection h2 with h2
  subst h2
  exact hc
theorem run_may2 : ∀ (f : Nat) (d : Int), d + f = 8 → 0 ≤ d → ∀ (v : Val) (cs : List PV), VC v cs → T.R (.call n_rambleref02_may [.agg cs, .int .i64 d] (.bool (mayV f v))) := by
  intro f
  induction f with
  | zero =>
    intro d hd h0 v cs hv
    obtain ⟨k, n, s, l⟩ := v
    obtain ⟨hk, hn, hs, p, rfl, hp⟩ := hv.open
    have plp := hp.pl
    refine call_V rfl rfl ?_
    repeat' first | refine O_stepL rfl ?_ | refine V_O rfl ?_ | refine O_step rfl ?_ | refine O_nil' ?_ | refine V_cT rfl rfl ?_ | refine V_cF rfl rfl ?_ | refine V_cEq rfl rfl ?_ | refine V_cNe rfl rfl ?_ | refine V_cB rfl rfl (fun _ => ?_) (fun _ => ?_) | refine O_gT' rfl ?_ | refine O_gU' rfl ?_ | refine O_gF' rfl rfl ?_ | refine O_gEq rfl ?_ | refine O_gNe rfl ?_ | refine O_gS rfl (fun _ => ?_) (fun _ => ?_) | refine V_fA rfl rfl ?_ | refine V_fAN rfl rfl ?_ | refine V_D rfl ?_ | refine D_step rfl ?_ | refine D_nil' ?_ | refine D_gT' rfl ?_ | refine D_gU' rfl ?_ | refine D_gF' rfl rfl ?_ | refine D_gS rfl (fun _ => ?_) (fun _ => ?_)
    · rfl
    all_goals (exfalso; simp at *; omega)
  | succ f ih =>
    intro d hd h0 v cs hv
    obtain ⟨k, n, s, l⟩ := v
    obtain ⟨hk, hn, hs, p, rfl, hp⟩ := hv.open
    have hw : IntKind.i64.wrap (d + 1) = d + 1 := by rw [wrap_i64]; omega
    exact run_may2_step f d ⟨by omega, h0⟩ k n s l p hp (run_all2 (mayV f) d l p hp (fun j v cs hj ha => by
      rw [hw]
      exact ih (d + 1) (by omega) (by omega) v cs (hp.el hj ha))) (run_rises2 l p hp)
theorem all_any (P : Val → Bool) (l : List Val) : (l.any fun v => !P v) = !l.all P := by
  induction l with
  | nil => rfl
  | cons v l ih => simp [ih]
theorem run_may : ∀ (f : Nat) (d : Int), d + f = 9 → 0 ≤ d → ∀ (v : Val) (cs : List PV), VC v cs → T.R (.call n_value_may [.agg cs, .int .i64 d] (.bool (mayV f v))) := by
  intro f
  induction f with
  | zero =>
    intro d hd h0 v cs hv
    obtain ⟨k, n, s, l⟩ := v
    obtain ⟨hk, hn, hs, p, rfl, hp⟩ := hv.open
    have plp := hp.pl
    refine call_V rfl rfl ?_
    repeat' first | refine O_stepL rfl ?_ | refine V_O rfl ?_ | refine O_step rfl ?_ | refine O_nil' ?_ | refine V_cT rfl rfl ?_ | refine V_cF rfl rfl ?_ | refine V_cEq rfl rfl ?_ | refine V_cNe rfl rfl ?_ | refine V_cB rfl rfl (fun _ => ?_) (fun _ => ?_) | refine O_gT' rfl ?_ | refine O_gU' rfl ?_ | refine O_gF' rfl rfl ?_ | refine O_gEq rfl ?_ | refine O_gNe rfl ?_ | refine O_gS rfl (fun _ => ?_) (fun _ => ?_) | refine V_fA rfl rfl ?_ | refine V_fAN rfl rfl ?_ | refine V_D rfl ?_ | refine D_step rfl ?_ | refine D_nil' ?_ | refine D_gT' rfl ?_ | refine D_gU' rfl ?_ | refine D_gF' rfl rfl ?_ | refine D_gS rfl (fun _ => ?_) (fun _ => ?_)
    · rfl
    all_goals (exfalso; simp at *; omega)
  | succ f ih =>
    intro d hd h0 v cs hv
    obtain ⟨k, n, s, l⟩ := v
    obtain ⟨hk, hn, hs, p, rfl, hp⟩ := hv.open
    have h := run_ContainsFunc (fun v => !mayV f v) n_value_may_1 [.iptr [.int .i64 d] 0] (pl_cons (.iptr _ _ (pl_cons (.int _ _) pl_nil)) pl_nil) l p hp (fun j v cs hj ha =>
      run_may1 f d ⟨by omega, h0⟩ v cs (hp.el hj ha) (ih (d + 1) (by omega) (by omega) v cs (hp.el hj ha)))
    rw [all_any] at h
    exact run_may_step f d ⟨by omega, h0⟩ k n s l p hp h
def chk (v : Val) : Int := if mayV 8 v then 0 else 20
theorem run_Check2 {v : Val} {cs : List PV} (hv : VC v cs) : T.R (.call n_rambleref02_Check [.agg cs] (.int .i64 (chk v))) := by
  have h := run_may2 8 0 (by omega) (by omega) v cs hv
  unfold chk
  generalize mayV 8 v = r at h ⊢
  obtain ⟨k, n, s, l⟩ := v
  obtain ⟨hk, hn, hs, p, rfl, hp⟩ := hv.open
  have plp := hp.pl
  refine call_V rfl rfl ?_
  repeat' first | refine O_stepL rfl ?_ | refine O_cA rfl rfl h ?_ | refine V_O rfl ?_ | refine O_step rfl ?_ | refine O_nil' ?_ | refine V_cT rfl rfl ?_ | refine V_cF rfl rfl ?_ | refine V_cEq rfl rfl ?_ | refine V_cNe rfl rfl ?_ | refine V_cB rfl rfl (fun _ => ?_) (fun _ => ?_) | refine O_gT' rfl ?_ | refine O_gU' rfl ?_ | refine O_gF' rfl rfl ?_ | refine O_gEq rfl ?_ | refine O_gNe rfl ?_ | refine O_gS rfl (fun _ => ?_) (fun _ => ?_) | refine V_fA rfl rfl ?_ | refine V_fAN rfl rfl ?_ | refine V_D rfl ?_ | refine D_step rfl ?_ | refine D_nil' ?_ | refine D_gT' rfl ?_ | refine D_gU' rfl ?_ | refine D_gF' rfl rfl ?_ | refine D_gS rfl (fun _ => ?_) (fun _ => ?_)
  all_goals simp_all
theorem run_Check {v : Val} {cs : List PV} (hv : VC v cs) : T.R (.call n_value_Check [.agg cs] (.int .i64 (chk v))) := by
  have h := run_may 8 1 (by omega) (by omega) v cs hv
  unfold chk
  generalize mayV 8 v = r at h ⊢
  obtain ⟨k, n, s, l⟩ := v
  obtain ⟨hk, hn, hs, p, rfl, hp⟩ := hv.open
  have plp := hp.pl
  refine call_V rfl rfl ?_
  repeat' first | refine O_stepL rfl ?_ | refine O_cA rfl rfl h ?_ | refine V_O rfl ?_ | refine O_step rfl ?_ | refine O_nil' ?_ | refine V_cT rfl rfl ?_ | refine V_cF rfl rfl ?_ | refine V_cEq rfl rfl ?_ | refine V_cNe rfl rfl ?_ | refine V_cB rfl rfl (fun _ => ?_) (fun _ => ?_) | refine O_gT' rfl ?_ | refine O_gU' rfl ?_ | refine O_gF' rfl rfl ?_ | refine O_gEq rfl ?_ | refine O_gNe rfl ?_ | refine O_gS rfl (fun _ => ?_) (fun _ => ?_) | refine V_fA rfl rfl ?_ | refine V_fAN rfl rfl ?_ | refine V_D rfl ?_ | refine D_step rfl ?_ | refine D_nil' ?_ | refine D_gT' rfl ?_ | refine D_gU' rfl ?_ | refine D_gF' rfl rfl ?_ | refine D_gS rfl (fun _ => ?_) (fun _ => ?_)
  all_goals simp_all
end Go.Proofs.YtinojffgmgjblaaGreatDoor

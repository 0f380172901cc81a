/- rambleref02.all, rises; both may, both Check. -/
import Derived.Test.YtinojffgmgjblaaDoorValF
import Derived.Test.YtinojffgmgjblaaDoorValH
import Derived.Test.YtinojffgmgjblaaDoorValI
set_option linter.unusedVariables false
set_option linter.unusedSimpArgs false
namespace Go.Proofs.YtinojffgmgjblaaDoor
open Go Go.AM Go.RowKit
theorem LC.el {l : List Val} {p : PV} (h : LC l p) {j : Nat} {v : Val} {cs : List PV} (hv : l[j]? = some v) (ha : At 4 p j cs) : VC v cs := by
  obtain ⟨cs', ha', hc⟩ := h.at hv
  obtain ⟨_, _, xs, f, rfl, h1⟩ := ha
  obtain ⟨_, _, ys, g, he, h2⟩ := ha'
  injection he with he1 he2
  subst he1
  rw [h1] at h2
  injection h2 with h2
  subst h2
  exact hc
theorem all_any (P : Val → Bool) (l : List Val) : (l.any fun v => !P v) = !l.all P := by
  induction l with
  | nil => rfl
  | cons v l ih => simp [ih]
theorem run_may : ∀ (f : Nat) (d : Int), d + f = 9 → 0 ≤ d → ∀ (v : Val) (cs : List PV), VC v cs → T.R (.call n_value_may [.agg cs, .int .i64 d] (.bool (mayV f v))) := by
  intro f
  induction f with
  | zero =>
    intro d hd h0 v cs hv
    obtain ⟨k, n, s, l⟩ := v
    obtain ⟨hk, hn, hs, p, rfl, hp⟩ := hv.open
    have plp := hp.pl
    refine call_V rfl rfl ?_
    repeat' first | refine O_stepL rfl ?_ | refine V_O rfl ?_ | refine O_step rfl ?_ | refine O_nil' ?_ | refine V_cT rfl rfl ?_ | refine V_cF rfl rfl ?_ | refine V_cEq rfl rfl ?_ | refine V_cNe rfl rfl ?_ | refine V_cB rfl rfl (fun _ => ?_) (fun _ => ?_) | refine O_gT' rfl ?_ | refine O_gU' rfl ?_ | refine O_gF' rfl rfl ?_ | refine O_gEq rfl ?_ | refine O_gNe rfl ?_ | refine O_gS rfl (fun _ => ?_) (fun _ => ?_) | refine V_fA rfl rfl ?_ | refine V_fAN rfl rfl ?_ | refine V_D rfl ?_ | refine D_step rfl ?_ | refine D_nil' ?_ | refine D_gT' rfl ?_ | refine D_gU' rfl ?_ | refine D_gF' rfl rfl ?_ | refine D_gS rfl (fun _ => ?_) (fun _ => ?_)
    · rfl
    all_goals (exfalso; simp at *; omega)
  | succ f ih =>
    intro d hd h0 v cs hv
    obtain ⟨k, n, s, l⟩ := v
    obtain ⟨hk, hn, hs, p, rfl, hp⟩ := hv.open
    have h := run_ContainsFunc (fun v => !mayV f v) n_value_may_1 [.iptr [.int .i64 d] 0] (pl_cons (.iptr _ _ (pl_cons (.int _ _) pl_nil)) pl_nil) l p hp (fun j v cs hj ha =>
      run_may1 f d ⟨by omega, h0⟩ v cs (hp.el hj ha) (ih (d + 1) (by omega) (by omega) v cs (hp.el hj ha)))
    rw [all_any] at h
    exact run_may_step f d ⟨by omega, h0⟩ k n s l p hp h
def chk (v : Val) : Int := if mayV 8 v then 0 else 20
theorem run_Check {v : Val} {cs : List PV} (hv : VC v cs) : T.R (.call n_value_Check [.agg cs] (.int .i64 (chk v))) := by
  have h := run_may 8 1 (by omega) (by omega) v cs hv
  unfold chk
  generalize mayV 8 v = r at h ⊢
  obtain ⟨k, n, s, l⟩ := v
  obtain ⟨hk, hn, hs, p, rfl, hp⟩ := hv.open
  have plp := hp.pl
  refine call_V rfl rfl ?_
  repeat' first | refine O_stepL rfl ?_ | refine O_cA rfl rfl h ?_ | refine V_O rfl ?_ | refine O_step rfl ?_ | refine O_nil' ?_ | refine V_cT rfl rfl ?_ | refine V_cF rfl rfl ?_ | refine V_cEq rfl rfl ?_ | refine V_cNe rfl rfl ?_ | refine V_cB rfl rfl (fun _ => ?_) (fun _ => ?_) | refine O_gT' rfl ?_ | refine O_gU' rfl ?_ | refine O_gF' rfl rfl ?_ | refine O_gEq rfl ?_ | refine O_gNe rfl ?_ | refine O_gS rfl (fun _ => ?_) (fun _ => ?_) | refine V_fA rfl rfl ?_ | refine V_fAN rfl rfl ?_ | refine V_D rfl ?_ | refine D_step rfl ?_ | refine D_nil' ?_ | refine D_gT' rfl ?_ | refine D_gU' rfl ?_ | refine D_gF' rfl rfl ?_ | refine D_gS rfl (fun _ => ?_) (fun _ => ?_)
  all_goals simp_all
end Go.Proofs.YtinojffgmgjblaaDoor

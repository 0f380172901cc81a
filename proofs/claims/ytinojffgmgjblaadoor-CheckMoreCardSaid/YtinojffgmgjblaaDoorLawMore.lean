/- CheckMore: what comes of more kinds has no fewer kinds: the law. -/
import Derived.Test.YtinojffgmgjblaaDoorInfF
set_option linter.unusedVariables false
set_option linter.unusedSimpArgs false
namespace Go.Proofs.YtinojffgmgjblaaDoor
open Go Go.AM Go.RowKit
theorem mask_or (a b : Int) : sub (maskI a) (maskI (IntKind.i64.wrap ((BitVec.ofInt 64 a ||| BitVec.ofInt 64 b).toNat : Int))) := by
  have e : BitVec.ofInt 64 (IntKind.i64.wrap ((BitVec.ofInt 64 a ||| BitVec.ofInt 64 b).toNat : Int)) = BitVec.ofInt 64 a ||| BitVec.ofInt 64 b := by
    have hx : ∀ x : BitVec 64, BitVec.ofInt 64 (IntKind.i64.wrap (x.toNat : Int)) = x := fun x => by
      apply BitVec.eq_of_toNat_eq
      rw [BitVec.toNat_ofInt, wrap_i64]
      have := x.isLt
      omega
    exact hx _
  rw [maskI_and, maskI_and, e, BitVec.toNat_or]
  exact sub_and (sub_inl (sub_refl _)) _
theorem law_CheckMore {n : Nat} {l : List Stp} {p : PV} (hp : SL n p l) (a b : Int) : T.R (.call n_ramblelaw17_CheckMore [.int .i64 a, .int .i64 b, p] (.bool true)) := by
  obtain ⟨f, hf⟩ := run_few n l p 1 hp
  have plp := SL.pl hp
  have h1 := run_Infer hp a
  have h2 := run_Infer hp (IntKind.i64.wrap ((BitVec.ofInt 64 a ||| BitVec.ofInt 64 b).toNat : Int))
  have hb := run_begun
  have k1 := infS_ks a l
  have k2 := infS_ks (IntKind.i64.wrap ((BitVec.ofInt 64 a ||| BitVec.ofInt 64 b).toNat : Int)) l
  have hm : (infS a l).2 = 0 → (infS (IntKind.i64.wrap ((BitVec.ofInt 64 a ||| BitVec.ofInt 64 b).toNat : Int)) l).2 = 0 → sub (infS a l).1 (infS (IntKind.i64.wrap ((BitVec.ofInt 64 a ||| BitVec.ofInt 64 b).toNat : Int)) l).1 := fun e1 e2 => by
    unfold infS at e1 e2 ⊢
    by_cases hc : chkL l = 0
    · rw [if_pos hc] at e1 e2 ⊢
      rw [if_pos hc]
      exact (seqF_mono (lF_mono l)).2 _ _ (maskI_ks _) (mask_or a b) e1 e2
    · rw [if_neg hc] at e1; exact absurd e1 hc
  unfold inP at h1 h2
  generalize infS a l = r1 at *
  generalize infS (IntKind.i64.wrap ((BitVec.ofInt 64 a ||| BitVec.ofInt 64 b).toNat : Int)) l = r2 at *
  have fin : r1.2 = 0 → r2.2 = 0 → PV.int .i64 (IntKind.i64.wrap ((BitVec.ofInt 64 (r1.1 : Int) &&& ~~~ BitVec.ofInt 64 (r2.1 : Int)).toNat : Int)) = PV.int .i64 0 := fun e1 e2 => int_is (without k1 k2 (hm e1 e2))
  refine call_V rfl rfl ?_
  cases f with
  | false =>
    repeat' first | refine O_cA rfl rfl hf ?_ | refine V_O rfl ?_ | refine O_step rfl ?_ | refine O_nil' ?_ | refine V_cT rfl rfl ?_ | refine V_cF rfl rfl ?_ | refine V_cEq rfl rfl ?_ | refine V_cNe rfl rfl ?_ | refine V_cB rfl rfl (fun _ => ?_) (fun _ => ?_) | refine O_gT' rfl ?_ | refine O_gU' rfl ?_ | refine O_gF' rfl rfl ?_ | refine O_gEq rfl ?_ | refine O_gNe rfl ?_ | refine O_gS rfl (fun _ => ?_) (fun _ => ?_) | refine V_fA rfl rfl ?_ | refine V_fAN rfl rfl ?_ | refine V_D rfl ?_ | refine D_step rfl ?_ | refine D_nil' ?_ | refine D_gT' rfl ?_ | refine D_gU' rfl ?_ | refine D_gF' rfl rfl ?_ | refine D_gS rfl (fun _ => ?_) (fun _ => ?_)
    rfl
  | true =>
    by_cases c1 : r1.2 = 0
    · by_cases c2 : r2.2 = 0
      · have fin' := fin c1 c2
        repeat' first | refine O_cA rfl rfl hf ?_ | refine O_cA rfl rfl h1 ?_ | refine O_cA rfl rfl h2 ?_ | refine O_cA rfl rfl hb ?_ | refine O_is (ndec_is c1) rfl ?_ | refine O_is (ndec_is c2) rfl ?_ | refine O_is fin' rfl ?_ | refine V_O rfl ?_ | refine O_step rfl ?_ | refine O_nil' ?_ | refine V_cT rfl rfl ?_ | refine V_cF rfl rfl ?_ | refine V_cEq rfl rfl ?_ | refine V_cNe rfl rfl ?_ | refine V_cB rfl rfl (fun _ => ?_) (fun _ => ?_) | refine O_gT' rfl ?_ | refine O_gU' rfl ?_ | refine O_gF' rfl rfl ?_ | refine O_gEq rfl ?_ | refine O_gNe rfl ?_ | refine O_gS rfl (fun _ => ?_) (fun _ => ?_) | refine V_fA rfl rfl ?_ | refine V_fAN rfl rfl ?_ | refine V_D rfl ?_ | refine D_step rfl ?_ | refine D_nil' ?_ | refine D_gT' rfl ?_ | refine D_gU' rfl ?_ | refine D_gF' rfl rfl ?_ | refine D_gS rfl (fun _ => ?_) (fun _ => ?_)
        rfl
      · repeat' first | refine O_cA rfl rfl hf ?_ | refine O_cA rfl rfl h1 ?_ | refine O_cA rfl rfl h2 ?_ | refine O_cA rfl rfl hb ?_ | refine O_is (ndec_is c1) rfl ?_ | refine O_is (ndec_not c2) rfl ?_ | refine V_O rfl ?_ | refine O_step rfl ?_ | refine O_nil' ?_ | refine V_cT rfl rfl ?_ | refine V_cF rfl rfl ?_ | refine V_cEq rfl rfl ?_ | refine V_cNe rfl rfl ?_ | refine V_cB rfl rfl (fun _ => ?_) (fun _ => ?_) | refine O_gT' rfl ?_ | refine O_gU' rfl ?_ | refine O_gF' rfl rfl ?_ | refine O_gEq rfl ?_ | refine O_gNe rfl ?_ | refine O_gS rfl (fun _ => ?_) (fun _ => ?_) | refine V_fA rfl rfl ?_ | refine V_fAN rfl rfl ?_ | refine V_D rfl ?_ | refine D_step rfl ?_ | refine D_nil' ?_ | refine D_gT' rfl ?_ | refine D_gU' rfl ?_ | refine D_gF' rfl rfl ?_ | refine D_gS rfl (fun _ => ?_) (fun _ => ?_)
        rfl
    · repeat' first | refine O_cA rfl rfl hf ?_ | refine O_cA rfl rfl h1 ?_ | refine O_cA rfl rfl h2 ?_ | refine O_cA rfl rfl hb ?_ | refine O_is (ndec_not c1) rfl ?_ | refine V_O rfl ?_ | refine O_step rfl ?_ | refine O_nil' ?_ | refine V_cT rfl rfl ?_ | refine V_cF rfl rfl ?_ | refine V_cEq rfl rfl ?_ | refine V_cNe rfl rfl ?_ | refine V_cB rfl rfl (fun _ => ?_) (fun _ => ?_) | refine O_gT' rfl ?_ | refine O_gU' rfl ?_ | refine O_gF' rfl rfl ?_ | refine O_gEq rfl ?_ | refine O_gNe rfl ?_ | refine O_gS rfl (fun _ => ?_) (fun _ => ?_) | refine V_fA rfl rfl ?_ | refine V_fAN rfl rfl ?_ | refine V_D rfl ?_ | refine D_step rfl ?_ | refine D_nil' ?_ | refine D_gT' rfl ?_ | refine D_gU' rfl ?_ | refine D_gF' rfl rfl ?_ | refine D_gS rfl (fun _ => ?_) (fun _ => ?_)
      rfl
end Go.Proofs.YtinojffgmgjblaaDoor

/- The row NumApart, from the law over plain values. -/
import Derived.Test.YthoknkogdldgcaaRows
import Derived.Test.YthoknkogdldgcaaApartL
import Derived.WalkKit
import Derived.ProofKit
import Derived.OpenShut
import Derived.ShutString
import Derived.ChangeOld
import Derived.Below
import Derived.SizedLaws
namespace Go.Proofs.Ythoknkogdldgcaa.numApart
open Go.AM Go.ChangeShapes Go.WideShapes Go.ChangeAt Go.RowKit
set_option linter.unusedVariables false
theorem own : ownKnob Try.prog.godebug = none := by kernel_rfl
theorem laidOut : laidOutB Try.prog = true := by kernel_rfl
set_option maxRecDepth 100000 in
theorem lifted (os : Os) (started : os.Started) (H : Type) (enc : TypeId × Value → H) :
    ReturnsInHanded {} Try.checked os 5 .any (Rows.numApartSpec.pre6 enc Try.prog Try.f5 Rows.numApartRow.domain false) (Rows.numApartSpec.post enc Try.prog Try.f5 false true false false) := by
  refine returnsInHanded_of_change_sized (C := Try.checked) own started (by kernel_rfl) Try.func5
    (ChangeSpec.witness6 (enc := enc) (C := Try.checked) false ⟨#[], #[.int .u64 0, .int .u64 0], []⟩ 8 (by kernel_rfl) (by kernel_rfl) (by kernel_rfl) (by kernel_rfl)) ?_
  intro W base args ds gs before hval hW hcnd hsz _
  have hW' := hW
  obtain ⟨p, q, hA, hV, rfl, hfz, hnd⟩ := hW
  obtain ⟨rfl, rfl⟩ := trodVars_none hV
  have hlt : ∀ x ∈ p, x.block < W.heap.size := fun x hx => by simpa using hW'.lt x (by simpa using hx)
  obtain ⟨qs, k1, k2, k3⟩ := args_av laidOut (ts := Try.f5.params.toList) (vs := args.toList) (by rw [Try.params5]; exact of_decide_eq_true (by kernel_rfl)) (fun j t v h1 h2 => hval j t v (by rw [← Array.getElem?_toList]; exact h1) (by rw [← Array.getElem?_toList]; exact h2)) hA
  have hre := fun {W' : World} (hb : Below W.heap.size W W') => reread laidOut hb (ts := Try.f5.params.toList) (by kernel_rfl) hA hlt
  rw [Try.params5] at k3
  obtain ⟨d0, ds0, q0, qs0, rfl, rfl, v0, r0⟩ := av_cons k3
  obtain ⟨d1, ds1, q1, qs1, rfl, rfl, v1, r1⟩ := av_cons r0
  obtain ⟨rfl, rfl⟩ := av_nil r1
  obtain ⟨a0, rfl, e0, m0⟩ := tv_int Try.underlying28 (av_of_tv (by kernel_rfl) v0)
  obtain ⟨a1, rfl, e1, m1⟩ := tv_int Try.underlying28 (av_of_tv (by kernel_rfl) v1)
  injection e0 with e0
  injection e1 with e1
  subst e0 e1
  have m0' : 0 ≤ a0 ∧ a0 ≤ 18446744073709551615 := m0
  have m1' : 0 ≤ a1 ∧ a1 ≤ 18446744073709551615 := m1
  have law : T.R (.call 5 [.int .u64 a0, .int .u64 a1] (.bool true)) := by
    have := law_NumApart a0.toNat a1.toNat (by omega) (by omega)
    rwa [Int.toNat_of_nonneg m0'.1, Int.toNat_of_nonneg m1'.1] at this
  have sem : SemCall Try.prog 5 [.int .u64 a0, .int .u64 a1] (.bool true) := run_sound tbl_ok (fun _ _ _ h => h.elim) (fun _ _ _ h => h.elim) law
  refine (law_call sem (by simpa using k1) k2).mono fun e W' ⟨he, bel⟩ => ?_
  subst he
  exact ⟨_, rfl, _, _, _, [], _, [], hW', trodAll_mk1 (shut_bool Try.underlying4 _), hre bel, rfl, bel.frame _, fun h => by cases h⟩
theorem over : Rows.numApartRow.holds Try.pinned (OpenSpec.ofChange Rows.numApartSpec) :=
  OpenClaim.holds_of_wide 5 Try.f5 rfl rfl rfl rfl rfl rfl rfl ⟨rfl, rfl, rfl, rfl, rfl⟩ rfl rfl rfl rfl rfl (by kernel_rfl) Try.func5 (by kernel_rfl)
    (of_decide_eq_true (by kernel_rfl)) (by unfold Func.isWrapper; first | (rw [if_pos (by decide +kernel)]; kernel_rfl) | (rw [if_neg (by decide +kernel)]; exact ⟨rfl, rfl⟩))
    (fun os started H enc _ => lifted os started H enc)
theorem proved : Rows.NumApartSaid := over
#print axioms proved
end Go.Proofs.Ythoknkogdldgcaa.numApart
namespace Go.Proofs.Ythoknkogdldgcaa
/-- The row, under a short name, for the claim. -/
theorem numApart_holds : Rows.NumApartSaid := numApart.proved
end Go.Proofs.Ythoknkogdldgcaa

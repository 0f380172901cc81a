/- The row NumSums, from the law over plain values. -/
import Derived.Test.YthoknkogdldgcaaRows
import Derived.Test.YthoknkogdldgcaaSumsLaw
import Derived.WalkKit
import Derived.ProofKit
import Derived.OpenShut
import Derived.ShutString
import Derived.ChangeOld
import Derived.Below
import Derived.SizedLaws
namespace Go.Proofs.Ythoknkogdldgcaa.numSums
open Go.AM Go.ChangeShapes Go.WideShapes Go.ChangeAt Go.RowKit
set_option linter.unusedVariables false
theorem own : ownKnob Try.prog.godebug = none := by kernel_rfl
theorem laidOut : laidOutB Try.prog = true := by kernel_rfl
set_option maxRecDepth 100000 in
theorem lifted (os : Os) (started : os.Started) (H : Type) (enc : TypeId × Value → H) :
    ReturnsInHanded {} Try.checked os 6 .any (Rows.numSumsSpec.pre6 enc Try.prog Try.f6 Rows.numSumsRow.domain false) (Rows.numSumsSpec.post enc Try.prog Try.f6 false true false false) := by
  refine returnsInHanded_of_change_sized (C := Try.checked) own started (by kernel_rfl) Try.func6
    (ChangeSpec.witness6 (enc := enc) (C := Try.checked) false ⟨#[], #[.slice none 0 0], []⟩ 8 (by kernel_rfl) (by kernel_rfl) (by kernel_rfl) (by kernel_rfl)) ?_
  intro W base args ds gs before hval hW hcnd hsz _
  have hW' := hW
  obtain ⟨p, q, hA, hV, rfl, hfz, hnd⟩ := hW
  obtain ⟨rfl, rfl⟩ := trodVars_none hV
  have hlt : ∀ x ∈ p, x.block < W.heap.size := fun x hx => by simpa using hW'.lt x (by simpa using hx)
  obtain ⟨qs, k1, k2, k3⟩ := args_av laidOut (ts := Try.f6.params.toList) (vs := args.toList) (by rw [Try.params6]; exact of_decide_eq_true (by kernel_rfl)) (fun j t v h1 h2 => hval j t v (by rw [← Array.getElem?_toList]; exact h1) (by rw [← Array.getElem?_toList]; exact h2)) hA
  have hre := fun {W' : World} (hb : Below W.heap.size W W') => reread laidOut hb (ts := Try.f6.params.toList) (by kernel_rfl) hA hlt
  rw [Try.params6] at k3
  obtain ⟨d0, ds0, q0, qs0, rfl, rfl, v0, r0⟩ := av_cons k3
  obtain ⟨rfl, rfl⟩ := av_nil r0
  have key : ∃ l, LV ic q0 l ∧ (∀ n ∈ l, R64 n) ∧ l.length ≤ 17592186044416 := by
    rcases tv_slice Try.underlying33 (of_decide_eq_true (by kernel_rfl)) (av_of_tv (by kernel_rfl) v0) with ⟨rfl, e0⟩ | ⟨dl, rest, xs, full, rfl, e0, hlen, _, _, helems⟩
    · injection e0 with e0
      subst e0
      exact ⟨[], .nil, fun n h => (by cases h), by simp⟩
    · injection e0 with e0
      subst e0
      obtain ⟨ns, rfl, hns⟩ := ints_of Try.underlying2 hlen helems
      refine ⟨ns, .sl ns full, fun n hn => hns n hn, ?_⟩
      have hz : (DataW.weightsEach Try.prog ([33] ++ Rows.numSumsSpec.plain.varTypes Try.prog) ([DataW.slice dl rest] ++ [])).all (· ≤ reachBytes) = true := hsz
      have h8 : Try.prog.bytesOf 2 = 8 := by kernel_rfl
      simp only [List.cons_append, List.nil_append, DataW.weightsEach, DataW.weights, Try.underlying33, List.all_append, List.all_cons, Bool.and_eq_true, decide_eq_true_eq, h8] at hz
      have h1 := hz.1
      unfold reachBytes at h1
      have h2 : ns.length = dl.length := by simpa using hlen
      omega
  obtain ⟨l, hv, hr, hl⟩ := key
  have law : T.R (.call 6 [q0] (.bool true)) := law_NumSums hv hr hl
  have sem : SemCall Try.prog 6 [q0] (.bool true) := run_sound tbl_ok (fun _ _ _ h => h.elim) (fun _ _ _ h => h.elim) law
  refine (law_call sem (by simpa using k1) k2).mono fun e W' ⟨he, bel⟩ => ?_
  subst he
  exact ⟨_, rfl, _, _, _, [], _, [], hW', trodAll_mk1 (shut_bool Try.underlying4 _), hre bel, rfl, bel.frame _, fun h => by cases h⟩
theorem over : Rows.numSumsRow.holds Try.pinned (OpenSpec.ofChange Rows.numSumsSpec) :=
  OpenClaim.holds_of_wide 6 Try.f6 rfl rfl rfl rfl rfl rfl rfl ⟨rfl, rfl, rfl, rfl, rfl⟩ rfl rfl rfl rfl rfl (by kernel_rfl) Try.func6 (by kernel_rfl)
    (of_decide_eq_true (by kernel_rfl)) (by unfold Func.isWrapper; first | (rw [if_pos (by decide +kernel)]; kernel_rfl) | (rw [if_neg (by decide +kernel)]; exact ⟨rfl, rfl⟩))
    (fun os started H enc _ => lifted os started H enc)
theorem proved : Rows.NumSumsSaid := over
#print axioms proved
end Go.Proofs.Ythoknkogdldgcaa.numSums
namespace Go.Proofs.Ythoknkogdldgcaa
/-- The row, under a short name, for the claim. -/
theorem numSums_holds : Rows.NumSumsSaid := numSums.proved
end Go.Proofs.Ythoknkogdldgcaa

/- The card CodecBetween: what begins with some bytes lies from them on below what is told, and nothing else does: from the law over plain values. -/
import Derived.Test.YtfdebgebnkbagaaDoorCards
import Derived.Test.YtfdebgebnkbagaaDoorTie
import Derived.Test.YtfdebgebnkbagaaDoorBetwL
import Derived.Test.YtfdebgebnkbagaaDoorAmZ
import Derived.WalkKit
import Derived.ProofKit
import Derived.OpenShut
import Derived.ShutString
import Derived.ChangeOld
import Derived.Below
import Derived.SizedLaws
import Derived.LaidMore
import Derived.Lay
import Derived.SevenTiedAt
namespace Go.Proofs.YtfdebgebnkbagaaDoor.codecBetween
open Go.AM Go.ChangeShapes Go.WideShapes Go.ChangeAt Go.RowKit
set_option linter.unusedVariables false
theorem own : ownKnob Tryd.prog.godebug = none := by kernel_rfl
theorem laidOut : laidOutB Tryd.prog = true := by kernel_rfl
theorem len_of {H : Type} {dl rest : List (DataW H)} {n : Nat} (h1 : (DataW.weights Tryd.prog 23 (DataW.slice dl rest)).all (· ≤ reachBytes) = true) (hn : n = dl.length) : n ≤ 140737488355328 := by
  have h8 : Tryd.prog.bytesOf 5 = 1 := by kernel_rfl
  simp only [DataW.weights, Tryd.underlying23, List.all_cons, Bool.and_eq_true, decide_eq_true_eq, h8] at h1
  have h2 := h1.1
  unfold reachBytes at h2
  omega
set_option maxRecDepth 100000 in
theorem lifted (os : Os) (started : os.Started) (H : Type) (enc : TypeId × Value → H) :
    ReturnsInHanded {} Tryd.checked os 4 .any (fun w args => (Rows.codecBetweenSpec.pre enc Tryd.prog Tryd.f4 Rows.codecBetweenRow.domain false w args ∧ laidMetH Tryd.prog Rows.codecBetweenRow.laid w) ∧ sizedMet enc Tryd.prog Tryd.f4 (OpenSpec.ofChange Rows.codecBetweenSpec) false w args)
      (Rows.codecBetweenSpec.post enc Tryd.prog Tryd.f4 false true false false) := by
  refine returnsInHanded_of_change_and (C := Tryd.checked) (X := fun w _ => laidMetH Tryd.prog Rows.codecBetweenRow.laid w) (fun _ _ _ hh h => h.of_heap hh) own started (by kernel_rfl) Tryd.func4
    (ChangeSpec.witness_shaped (enc := enc) (C := Tryd.checked) (os := os) (X := fun w _ => laidMetH Tryd.prog Rows.codecBetweenRow.laid w) false (World.laidAll Tryd.prog os Rows.codecBetweenRow.laid) #[.slice none 0 0, .slice none 0 0] 8 (World.laidAll_os _ _ _)
      (World.shaped_of_ZipB (by kernel_rfl) (by kernel_rfl)) (by kernel_rfl) (by kernel_rfl) (by kernel_rfl)
      (by rw [MakeChecks.laidMetH_plain _ _ _ (by kernel_rfl)]; exact laidMet_laidAll _ (by kernel_rfl) (by kernel_rfl))) ?_
  intro W base args ds gs before hval hW hcnd hsz _ _
  have hW' := hW
  obtain ⟨p, q, hA, hV, rfl, hfz, hnd⟩ := hW
  obtain ⟨rfl, rfl⟩ := trodVars_none hV
  have hlt : ∀ x ∈ p, x.block < W.heap.size := fun x hx => by simpa using hW'.lt x (by simpa using hx)
  obtain ⟨qs, k1, k2, k3⟩ := args_av laidOut (ts := Tryd.f4.params.toList) (vs := args.toList) (by rw [Tryd.params4]; exact of_decide_eq_true (by kernel_rfl)) (fun j t v h1 h2 => hval j t v (by rw [← Array.getElem?_toList]; exact h1) (by rw [← Array.getElem?_toList]; exact h2)) hA
  have hre := fun {W' : World} (hb : Below W.heap.size W W') => reread laidOut hb (ts := Tryd.f4.params.toList) (by kernel_rfl) hA hlt
  rw [Tryd.params4] at k3
  obtain ⟨d0, ds0, q0, qs0, rfl, rfl, v0, r0⟩ := av_cons k3
  obtain ⟨d1, ds1, q1, qs1, rfl, rfl, v1, r1⟩ := av_cons r0
  obtain ⟨rfl, rfl⟩ := av_nil r1
  obtain ⟨b, hb, hbl⟩ := tv_bytes Tryd.underlying23 Tryd.underlying5 (of_decide_eq_true (by kernel_rfl)) (av_of_tv (by kernel_rfl) v0)
  obtain ⟨x, hx, hxl⟩ := tv_bytes Tryd.underlying23 Tryd.underlying5 (of_decide_eq_true (by kernel_rfl)) (av_of_tv (by kernel_rfl) v1)
  have hz : (DataW.weightsEach Tryd.prog ([23, 23] ++ Rows.codecBetweenSpec.plain.varTypes Tryd.prog) ([d0, d1] ++ [])).all (· ≤ reachBytes) = true := hsz
  simp only [List.cons_append, List.nil_append, DataW.weightsEach, List.all_append, Bool.and_eq_true] at hz
  have hlb : b.length ≤ 140737488355328 := by
    rcases hbl with ⟨_, rfl⟩ | ⟨dl, rest, rfl, hl⟩
    · simp
    · exact len_of hz.1 hl
  have hlx : x.length ≤ 140737488355328 := by
    rcases hxl with ⟨_, rfl⟩ | ⟨dl, rest, rfl, hl⟩
    · simp
    · exact len_of hz.2.1 hl
  have law : T.R (.call 4 [q0, q1] (.bool true)) := law_CodecBetween hb hx hlb hlx
  have sem : SemCall Tryd.prog 4 [q0, q1] (.bool true) := run_sound tbl_ok (fun _ _ _ h => h.elim) X_sem law
  refine (law_call sem (by simpa using k1) k2).mono fun e W' ⟨he, bel⟩ => ?_
  subst he
  exact ⟨_, rfl, _, _, _, [], _, [], hW', trodAll_mk1 (shut_bool Tryd.underlying4 _), hre bel, rfl, bel.frame _, fun h => by cases h⟩
theorem said : Rows.CodecBetweenSaid :=
  OpenClaim.holds_of_wide 4 Tryd.f4 rfl rfl rfl rfl rfl rfl rfl ⟨rfl, rfl, rfl, rfl, rfl⟩ rfl rfl rfl rfl rfl (by kernel_rfl) Tryd.func4 (by kernel_rfl)
    (of_decide_eq_true (by kernel_rfl)) (by unfold Func.isWrapper; first | (rw [if_pos (by decide +kernel)]; kernel_rfl) | (rw [if_neg (by decide +kernel)]; exact ⟨rfl, rfl⟩))
    (fun os started H enc _ => lifted os started H enc)
theorem plain (f : FuncId) (fn : Func) (hf : Tryd.pinned.checked.prog.funcNamed "ramble/ramblelaw03.CodecBetween" = some f) (hfn : Tryd.pinned.checked.prog.funcs[f]? = some fn) :
    false = Tryd.pinned.checked.prog.looks [] ∧ ∀ (j : Nat) t, fn.params[j]? = some t → Tryd.pinned.checked.prog.wantsStandIn t = false := by
  obtain rfl : f = 4 := Option.some.inj ((show Tryd.prog.funcNamed "ramble/ramblelaw03.CodecBetween" = some 4 by kernel_rfl).symm.trans hf) |>.symm
  obtain rfl : fn = Tryd.f4 := (Option.some.inj (Tryd.func4.symm.trans hfn)).symm
  refine ⟨by kernel_rfl, fun j t ht => ?_⟩
  rw [Tryd.params4] at ht
  have hm : t ∈ [23, 23] := by simpa using Array.mem_of_getElem? ht
  have hall : ([23, 23].all fun u => !Tryd.prog.wantsStandIn u) = true := by kernel_rfl
  exact (show Tryd.prog.wantsStandIn t = false by simpa using List.all_eq_true.1 hall t hm)
theorem card : Rows.CodecBetweenCardSaid :=
  Claim7.holds_tied_plain_at .later [] _ _ _ _ said (fun _ h => by cases h) (by kernel_rfl) (fun _ h => by cases h) codecBetween_row_tie rfl ⟨rfl, rfl⟩ (by kernel_rfl) rfl plain (by kernel_rfl)
#print axioms card
end Go.Proofs.YtfdebgebnkbagaaDoor.codecBetween
namespace Go.Proofs.YtfdebgebnkbagaaDoor
/-- The card, under a short name, for the claim. -/
theorem codecBetween_holds : Rows.CodecBetweenCardSaid := codecBetween.card
end Go.Proofs.YtfdebgebnkbagaaDoor


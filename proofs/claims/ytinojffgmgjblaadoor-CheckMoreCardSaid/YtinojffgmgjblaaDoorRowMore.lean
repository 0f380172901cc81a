/- The card CheckMore: what comes of more kinds has no fewer kinds, where both are taken: from the law over plain values. -/
import Derived.Test.YtinojffgmgjblaaDoorCards
import Derived.Test.YtinojffgmgjblaaDoorTie
import Derived.Test.YtinojffgmgjblaaDoorLawMore
import Derived.Test.YtinojffgmgjblaaDoorRowStp
import Derived.Test.YtinojffgmgjblaaDoorPrimC
import Derived.Test.YtinojffgmgjblaaDoorAmZ
import Derived.WalkKit
import Derived.ProofKit
import Derived.OpenShut
import Derived.ShutString
import Derived.ChangeOld
import Derived.Below
import Derived.SizedLaws
import Derived.LaidMore
import Derived.Lay
import Derived.SevenTiedAt
import Derived.Deep.DeepHandedRow
namespace Go.Proofs.YtinojffgmgjblaaDoor.checkMore
open Go.AM Go.ChangeShapes Go.WideShapes Go.ChangeAt Go.RowKit
set_option linter.unusedVariables false
theorem own : ownKnob Tryd.prog.godebug = none := by kernel_rfl
theorem laidOut : laidOutB Tryd.prog = true := by kernel_rfl
set_option maxRecDepth 100000 in
theorem lifted (os : Os) (started : os.Started) (H : Type) (enc : TypeId × Value → H) :
    ReturnsInHanded {} Tryd.checked os 3 .any (fun w args => (Rows.checkMoreSpec.pre enc Tryd.prog Tryd.f3 Rows.checkMoreRow.domain false w args ∧ laidMetH Tryd.prog Rows.checkMoreRow.laid w) ∧ sizedMet enc Tryd.prog Tryd.f3 (OpenSpec.ofChange Rows.checkMoreSpec) false w args)
      (Rows.checkMoreSpec.post enc Tryd.prog Tryd.f3 false true false false) := by
  refine returnsInHanded_of_change_and (C := Tryd.checked) (X := fun w _ => laidMetH Tryd.prog Rows.checkMoreRow.laid w) (fun _ _ _ hh h => h.of_heap hh) own started (by kernel_rfl) Tryd.func3
    (ChangeSpec.witness_shaped (enc := enc) (C := Tryd.checked) (os := os) (X := fun w _ => laidMetH Tryd.prog Rows.checkMoreRow.laid w) false (World.laidAll Tryd.prog os Rows.checkMoreRow.laid) #[.int .i64 0, .int .i64 0, .slice none 0 0] 8 (World.laidAll_os _ _ _)
      (World.shaped_of_ZipB (by kernel_rfl) (by kernel_rfl)) (by kernel_rfl) (by kernel_rfl) (by kernel_rfl)
      (by rw [MakeChecks.laidMetH_plain _ _ _ (by kernel_rfl)]; exact laidMet_laidAll _ (by kernel_rfl) (by kernel_rfl))) ?_
  intro W base args ds gs before hval hW hcnd hsz hX _
  have hW' := hW
  obtain ⟨p, q, hA, hV, rfl, hfz, hnd⟩ := hW
  obtain ⟨rfl, rfl⟩ := trodVars_none hV
  have hlt : ∀ x ∈ p, x.block < W.heap.size := fun x hx => by simpa using hW'.lt x (by simpa using hx)
  obtain ⟨qs, k1, k2, k3⟩ := args_av laidOut (ts := Tryd.f3.params.toList) (vs := args.toList) (by rw [Tryd.params3]; exact of_decide_eq_true (by kernel_rfl)) (fun j t v h1 h2 => hval j t v (by rw [← Array.getElem?_toList]; exact h1) (by rw [← Array.getElem?_toList]; exact h2)) hA
  have hre := fun {W' : World} (hb : Below W.heap.size W W') => reread laidOut hb (ts := Tryd.f3.params.toList) (by kernel_rfl) hA hlt
  rw [Tryd.params3] at k3
  obtain ⟨d0, ds0, q0, qs0, rfl, rfl, v0, r0⟩ := av_cons k3
  obtain ⟨d1, ds1, q1, qs1, rfl, rfl, v1, r1⟩ := av_cons r0
  obtain ⟨d2, ds2, q2, qs2, rfl, rfl, v2, r2⟩ := av_cons r1
  obtain ⟨rfl, rfl⟩ := av_nil r2
  obtain ⟨a0, rfl, e0, ha0⟩ := tv_int Tryd.underlying3 (av_of_tv (by kernel_rfl) v0)
  injection e0 with e0
  subst e0
  obtain ⟨a1, rfl, e1, ha1⟩ := tv_int Tryd.underlying3 (av_of_tv (by kernel_rfl) v1)
  injection e1 with e1
  subst e1
  have hz : (DataW.weightsEach Tryd.prog ([3, 3, 22] ++ Rows.checkMoreSpec.plain.varTypes Tryd.prog) ([.lit (.int .i64 a0), .lit (.int .i64 a1), d2] ++ [])).all (· ≤ reachBytes) = true := hsz
  obtain ⟨q, l, e2, hl⟩ := rd_stps wgt_ok (av_of_tv (by kernel_rfl) v2) (wgt_each hz 2 22 d2 rfl rfl)
  injection e2 with e2
  subst e2
  have law : T.R (.call 3 [.int .i64 a0, .int .i64 a1, q2] (.bool true)) := law_CheckMore hl a0 a1
  have sem : SemCall Tryd.prog 3 [.int .i64 a0, .int .i64 a1, q2] (.bool true) := run_sound tbl_ok P_sem X_sem law
  refine (law_call sem (by simpa using k1) k2).mono fun e W' ⟨he, bel⟩ => ?_
  subst he
  exact ⟨_, rfl, _, _, _, [], _, [], hW', trodAll_mk1 (shut_bool Tryd.underlying4 _), hre bel, rfl, bel.frame _, fun h => by cases h⟩
theorem said : Rows.CheckMoreSaid :=
  OpenClaim.holds_of_wide 3 Tryd.f3 rfl rfl rfl rfl rfl rfl rfl ⟨rfl, rfl, rfl, rfl, rfl⟩ rfl rfl rfl rfl rfl (by kernel_rfl) Tryd.func3 (by kernel_rfl)
    (of_decide_eq_true (by kernel_rfl)) (by unfold Func.isWrapper; first | (rw [if_pos (by decide +kernel)]; kernel_rfl) | (rw [if_neg (by decide +kernel)]; exact ⟨rfl, rfl⟩))
    (fun os started H enc _ => lifted os started H enc)
theorem plain (f : FuncId) (fn : Func) (hf : Tryd.pinned.checked.prog.funcNamed "ramble/ramblelaw17.CheckMore" = some f) (hfn : Tryd.pinned.checked.prog.funcs[f]? = some fn) :
    false = Tryd.pinned.checked.prog.looks [] ∧ ∀ (j : Nat) t, fn.params[j]? = some t → Tryd.pinned.checked.prog.wantsStandIn t = false := by
  obtain rfl : f = 3 := Option.some.inj ((show Tryd.prog.funcNamed "ramble/ramblelaw17.CheckMore" = some 3 by kernel_rfl).symm.trans hf) |>.symm
  obtain rfl : fn = Tryd.f3 := (Option.some.inj (Tryd.func3.symm.trans hfn)).symm
  refine ⟨by kernel_rfl, fun j t ht => ?_⟩
  rw [Tryd.params3] at ht
  have hm : t ∈ [3, 3, 22] := by simpa using Array.mem_of_getElem? ht
  have hall : ([3, 3, 22].all fun u => !Tryd.prog.wantsStandIn u) = true := by kernel_rfl
  exact (show Tryd.prog.wantsStandIn t = false by simpa using List.all_eq_true.1 hall t hm)
theorem card : Rows.CheckMoreCardSaid :=
  Claim7.holds_tied_plain_at .later [] _ _ _ _ said (fun _ h => by cases h) (by kernel_rfl) (fun _ h => by cases h) checkMore_row_tie rfl ⟨rfl, rfl⟩ (by kernel_rfl) rfl plain (by kernel_rfl)
#print axioms card
end Go.Proofs.YtinojffgmgjblaaDoor.checkMore
namespace Go.Proofs.YtinojffgmgjblaaDoor
theorem checkMore_holds : Rows.CheckMoreCardSaid := checkMore.card
end Go.Proofs.YtinojffgmgjblaaDoor

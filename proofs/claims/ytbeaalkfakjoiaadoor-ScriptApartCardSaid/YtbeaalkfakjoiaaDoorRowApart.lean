/- The card ScriptApart: unlike commands have unlike lines: from the law over plain values. -/
import Derived.Test.YtbeaalkfakjoiaaDoorCards
import Derived.Test.YtbeaalkfakjoiaaDoorTie
import Derived.Test.YtbeaalkfakjoiaaDoorScrH
import Derived.Test.YtbeaalkfakjoiaaDoorRowCmd
import Derived.Test.YtbeaalkfakjoiaaDoorGlS
import Derived.Test.YtbeaalkfakjoiaaDoorAmZ
import Derived.WalkKit
import Derived.ProofKit
import Derived.OpenShut
import Derived.ShutString
import Derived.ChangeOld
import Derived.Below
import Derived.SizedLaws
import Derived.LaidMore
import Derived.Lay
import Derived.SevenTiedAt
import Derived.Deep.DeepHandedRow
namespace Go.Proofs.YtbeaalkfakjoiaaDoor.scriptApart
open Go.AM Go.ChangeShapes Go.WideShapes Go.ChangeAt Go.RowKit
set_option linter.unusedVariables false
theorem own : ownKnob Tryd.prog.godebug = none := by kernel_rfl
theorem laidOut : laidOutB Tryd.prog = true := by kernel_rfl
set_option maxRecDepth 100000 in
theorem lifted (os : Os) (started : os.Started) (H : Type) (enc : TypeId × Value → H) :
    ReturnsInHanded {} Tryd.checked os 4 .any (fun w args => (Rows.scriptApartSpec.pre enc Tryd.prog Tryd.f4 Rows.scriptApartRow.domain false w args ∧ laidMetH Tryd.prog Rows.scriptApartRow.laid w) ∧ sizedMet enc Tryd.prog Tryd.f4 (OpenSpec.ofChange Rows.scriptApartSpec) false w args)
      (Rows.scriptApartSpec.post enc Tryd.prog Tryd.f4 false true false false) := by
  refine returnsInHanded_of_change_and (C := Tryd.checked) (X := fun w _ => laidMetH Tryd.prog Rows.scriptApartRow.laid w) (fun _ _ _ hh h => h.of_heap hh) own started (by kernel_rfl) Tryd.func4
    (ChangeSpec.witness_shaped (enc := enc) (C := Tryd.checked) (os := os) (X := fun w _ => laidMetH Tryd.prog Rows.scriptApartRow.laid w) false (World.laidAll Tryd.prog os Rows.scriptApartRow.laid) #[.agg #[.int .i64 0, .int .i64 0, .string ⟨#[]⟩, .int .i64 0, .int .i64 0], .agg #[.int .i64 0, .int .i64 0, .string ⟨#[]⟩, .int .i64 0, .int .i64 0]] 8 (World.laidAll_os _ _ _)
      (World.shaped_of_ZipB (by kernel_rfl) (by kernel_rfl)) (by kernel_rfl) (by kernel_rfl) (by kernel_rfl)
      (by rw [MakeChecks.laidMetH_plain _ _ _ (by kernel_rfl)]; exact laidMet_laidAll _ (by kernel_rfl) (by kernel_rfl))) ?_
  intro W base args ds gs before hval hW hcnd hsz hX _
  have hW' := hW
  obtain ⟨p, q, hA, hV, rfl, hfz, hnd⟩ := hW
  obtain ⟨rfl, rfl⟩ := trodVars_none hV
  have hlt : ∀ x ∈ p, x.block < W.heap.size := fun x hx => by simpa using hW'.lt x (by simpa using hx)
  obtain ⟨qs, k1, k2, k3⟩ := args_av laidOut (ts := Tryd.f4.params.toList) (vs := args.toList) (by rw [Tryd.params4]; exact of_decide_eq_true (by kernel_rfl)) (fun j t v h1 h2 => hval j t v (by rw [← Array.getElem?_toList]; exact h1) (by rw [← Array.getElem?_toList]; exact h2)) hA
  have hre := fun {W' : World} (hb : Below W.heap.size W W') => reread laidOut hb (ts := Tryd.f4.params.toList) (by kernel_rfl) hA hlt
  rw [Tryd.params4] at k3
  obtain ⟨d0, ds0, q0, qs0, rfl, rfl, v0, r0⟩ := av_cons k3
  obtain ⟨d1, ds1, q1, qs1, rfl, rfl, v1, r1⟩ := av_cons r0
  obtain ⟨rfl, rfl⟩ := av_nil r1
  obtain ⟨ka0, se0, tx0, to0, ke0, rfl, rfl, hs0, ht0, hk0⟩ := cmd_arg v0
  obtain ⟨ka1, se1, tx1, to1, ke1, rfl, rfl, hs1, ht1, hk1⟩ := cmd_arg v1
  have hz : (DataW.weightsEach Tryd.prog ([23, 23] ++ Rows.scriptApartSpec.plain.varTypes Tryd.prog) ([.agg [.lit (.int .i64 ka0), .lit (.int .i64 se0), .lit (.string tx0), .lit (.int .i64 to0), .lit (.int .i64 ke0)], .agg [.lit (.int .i64 ka1), .lit (.int .i64 se1), .lit (.string tx1), .lit (.int .i64 to1), .lit (.int .i64 ke1)]] ++ [])).all (· ≤ reachBytes) = true := hsz
  have hl0 : tx0.length ≤ 140737488355328 := by
    have h := List.all_eq_true.1 hz _ (DataW.weights_mem_each (j := 0) (t := 23) rfl rfl tx0.length (by simp [DataW.weights, DataW.weightsEach, Tryd.underlying23]))
    have := reachBytes_lt
    simp only [decide_eq_true_eq] at h
    omega
  have hl1 : tx1.length ≤ 140737488355328 := by
    have h := List.all_eq_true.1 hz _ (DataW.weights_mem_each (j := 1) (t := 23) rfl rfl tx1.length (by simp [DataW.weights, DataW.weightsEach, Tryd.underlying23]))
    have := reachBytes_lt
    simp only [decide_eq_true_eq] at h
    omega
  have hL := hX
  rw [MakeChecks.laidMetH_plain _ _ _ (by kernel_rfl)] at hL
  have law : T.R (.call 4 [.agg (k5 ka0 se0 tx0 to0 ke0), .agg (k5 ka1 se1 tx1 to1 ke1)] (.bool true)) := law_ScriptApart hs0 ht0 hk0 hl0 hs1 ht1 hk1 hl1
  have sem : SemCall Tryd.prog 4 [.agg (k5 ka0 se0 tx0 to0 ke0), .agg (k5 ka1 se1 tx1 to1 ke1)] (.bool true) := run_sound tbl_ok P_sem X_sem law
  refine (law_call sem (by simpa using k1) k2 (gl_of hL)).mono fun e W' ⟨he, bel⟩ => ?_
  subst he
  exact ⟨_, rfl, _, _, _, [], _, [], hW', trodAll_mk1 (shut_bool Tryd.underlying4 _), hre bel, rfl, bel.frame _, fun h => by cases h⟩
theorem said : Rows.ScriptApartSaid :=
  OpenClaim.holds_of_wide 4 Tryd.f4 rfl rfl rfl rfl rfl rfl rfl ⟨rfl, rfl, rfl, rfl, rfl⟩ rfl rfl rfl rfl rfl (by kernel_rfl) Tryd.func4 (by kernel_rfl)
    (of_decide_eq_true (by kernel_rfl)) (by unfold Func.isWrapper; first | (rw [if_pos (by decide +kernel)]; kernel_rfl) | (rw [if_neg (by decide +kernel)]; exact ⟨rfl, rfl⟩))
    (fun os started H enc _ => lifted os started H enc)
theorem plain (f : FuncId) (fn : Func) (hf : Tryd.pinned.checked.prog.funcNamed "ramble/ramblelaw25.ScriptApart" = some f) (hfn : Tryd.pinned.checked.prog.funcs[f]? = some fn) :
    true = Tryd.pinned.checked.prog.looks [] ∧ ∀ (j : Nat) t, fn.params[j]? = some t → Tryd.pinned.checked.prog.wantsStandIn t = false := by
  obtain rfl : f = 4 := Option.some.inj ((show Tryd.prog.funcNamed "ramble/ramblelaw25.ScriptApart" = some 4 by kernel_rfl).symm.trans hf) |>.symm
  obtain rfl : fn = Tryd.f4 := (Option.some.inj (Tryd.func4.symm.trans hfn)).symm
  refine ⟨by kernel_rfl, fun j t ht => ?_⟩
  rw [Tryd.params4] at ht
  have hm : t ∈ [23, 23] := by simpa using Array.mem_of_getElem? ht
  have hall : ([23, 23].all fun u => !Tryd.prog.wantsStandIn u) = true := by kernel_rfl
  exact (show Tryd.prog.wantsStandIn t = false by simpa using List.all_eq_true.1 hall t hm)
theorem card : Rows.ScriptApartCardSaid :=
  Claim7.holds_tied_plain_at .later [] _ _ _ _ said (fun _ h => by cases h) (by kernel_rfl) (fun _ h => by cases h) scriptApart_row_tie rfl ⟨rfl, rfl⟩ (by kernel_rfl) rfl plain (by kernel_rfl)
#print axioms card
end Go.Proofs.YtbeaalkfakjoiaaDoor.scriptApart
namespace Go.Proofs.YtbeaalkfakjoiaaDoor
theorem scriptApart_holds : Rows.ScriptApartCardSaid := scriptApart.card
end Go.Proofs.YtbeaalkfakjoiaaDoor

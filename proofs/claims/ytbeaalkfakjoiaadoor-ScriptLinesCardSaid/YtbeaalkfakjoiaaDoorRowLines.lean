/- The card ScriptLines: the line of any command, the command of any line, the bits of any number: from the law over plain values. -/
import Derived.Test.YtbeaalkfakjoiaaDoorCards
import Derived.Test.YtbeaalkfakjoiaaDoorTie
import Derived.Test.YtbeaalkfakjoiaaDoorScrI
import Derived.Test.YtbeaalkfakjoiaaDoorRowCmd
import Derived.Test.YtbeaalkfakjoiaaDoorGlS
import Derived.Test.YtbeaalkfakjoiaaDoorAmZ
import Derived.WalkKit
import Derived.ProofKit
import Derived.OpenShut
import Derived.ShutString
import Derived.ChangeOld
import Derived.Below
import Derived.SizedLaws
import Derived.LaidMore
import Derived.Lay
import Derived.SevenTiedAt
import Derived.Deep.DeepHandedRow
namespace Go.Proofs.YtbeaalkfakjoiaaDoor.scriptLines
open Go.AM Go.ChangeShapes Go.WideShapes Go.ChangeAt Go.RowKit
set_option linter.unusedVariables false
theorem own : ownKnob Tryd.prog.godebug = none := by kernel_rfl
theorem laidOut : laidOutB Tryd.prog = true := by kernel_rfl
set_option maxRecDepth 100000 in
theorem lifted (os : Os) (started : os.Started) (H : Type) (enc : TypeId × Value → H) :
    ReturnsInHanded {} Tryd.checked os 3 .any (fun w args => (Rows.scriptLinesSpec.pre enc Tryd.prog Tryd.f3 Rows.scriptLinesRow.domain false w args ∧ laidMetH Tryd.prog Rows.scriptLinesRow.laid w) ∧ sizedMet enc Tryd.prog Tryd.f3 (OpenSpec.ofChange Rows.scriptLinesSpec) false w args)
      (Rows.scriptLinesSpec.post enc Tryd.prog Tryd.f3 false true false false) := by
  refine returnsInHanded_of_change_and (C := Tryd.checked) (X := fun w _ => laidMetH Tryd.prog Rows.scriptLinesRow.laid w) (fun _ _ _ hh h => h.of_heap hh) own started (by kernel_rfl) Tryd.func3
    (ChangeSpec.witness_shaped (enc := enc) (C := Tryd.checked) (os := os) (X := fun w _ => laidMetH Tryd.prog Rows.scriptLinesRow.laid w) false (World.laidAll Tryd.prog os Rows.scriptLinesRow.laid) #[.agg #[.int .i64 0, .int .i64 0, .string ⟨#[]⟩, .int .i64 0, .int .i64 0], .string ⟨#[]⟩, .int .i64 0] 8 (World.laidAll_os _ _ _)
      (World.shaped_of_ZipB (by kernel_rfl) (by kernel_rfl)) (by kernel_rfl) (by kernel_rfl) (by kernel_rfl)
      (by rw [MakeChecks.laidMetH_plain _ _ _ (by kernel_rfl)]; exact laidMet_laidAll _ (by kernel_rfl) (by kernel_rfl))) ?_
  intro W base args ds gs before hval hW hcnd hsz hX _
  have hW' := hW
  obtain ⟨p, q, hA, hV, rfl, hfz, hnd⟩ := hW
  obtain ⟨rfl, rfl⟩ := trodVars_none hV
  have hlt : ∀ x ∈ p, x.block < W.heap.size := fun x hx => by simpa using hW'.lt x (by simpa using hx)
  obtain ⟨qs, k1, k2, k3⟩ := args_av laidOut (ts := Tryd.f3.params.toList) (vs := args.toList) (by rw [Tryd.params3]; exact of_decide_eq_true (by kernel_rfl)) (fun j t v h1 h2 => hval j t v (by rw [← Array.getElem?_toList]; exact h1) (by rw [← Array.getElem?_toList]; exact h2)) hA
  have hre := fun {W' : World} (hb : Below W.heap.size W W') => reread laidOut hb (ts := Tryd.f3.params.toList) (by kernel_rfl) hA hlt
  rw [Tryd.params3] at k3
  obtain ⟨d0, ds0, q0, qs0, rfl, rfl, v0, r0⟩ := av_cons k3
  obtain ⟨d1, ds1, q1, qs1, rfl, rfl, v1, r1⟩ := av_cons r0
  obtain ⟨d2, ds2, q2, qs2, rfl, rfl, v2, r2⟩ := av_cons r1
  obtain ⟨rfl, rfl⟩ := av_nil r2
  obtain ⟨ka0, se0, tx0, to0, ke0, rfl, rfl, hs0, ht0, hk0⟩ := cmd_arg v0
  obtain ⟨a1, rfl, e1, ha1⟩ := tv_str Tryd.underlying9 (av_of_tv (by kernel_rfl) v1)
  injection e1 with e1
  subst e1
  obtain ⟨a2, rfl, e2, ha2⟩ := tv_int Tryd.underlying2 (av_of_tv (by kernel_rfl) v2)
  injection e2 with e2
  subst e2
  have hz : (DataW.weightsEach Tryd.prog ([23, 9, 2] ++ Rows.scriptLinesSpec.plain.varTypes Tryd.prog) ([.agg [.lit (.int .i64 ka0), .lit (.int .i64 se0), .lit (.string tx0), .lit (.int .i64 to0), .lit (.int .i64 ke0)], .lit (.string a1), .lit (.int .i64 a2)] ++ [])).all (· ≤ reachBytes) = true := hsz
  have hl0 : tx0.length ≤ 140737488355328 := by
    have h := List.all_eq_true.1 hz _ (DataW.weights_mem_each (j := 0) (t := 23) rfl rfl tx0.length (by simp [DataW.weights, DataW.weightsEach, Tryd.underlying23]))
    have := reachBytes_lt
    simp only [decide_eq_true_eq] at h
    omega
  have hl1 : a1.length ≤ 140737488355328 := by
    have h := sized_string hz (j := 1) (t := 9) rfl rfl
    have := reachBytes_lt
    omega
  have hL := hX
  rw [MakeChecks.laidMetH_plain _ _ _ (by kernel_rfl)] at hL
  have law : T.R (.call 3 [.agg (k5 ka0 se0 tx0 to0 ke0), .str a1, .int .i64 a2] (.bool true)) := law_ScriptLines hs0 ht0 hk0 (r64_of ha2) hl0 hl1
  have sem : SemCall Tryd.prog 3 [.agg (k5 ka0 se0 tx0 to0 ke0), .str a1, .int .i64 a2] (.bool true) := run_sound tbl_ok P_sem X_sem law
  refine (law_call sem (by simpa using k1) k2 (gl_of hL)).mono fun e W' ⟨he, bel⟩ => ?_
  subst he
  exact ⟨_, rfl, _, _, _, [], _, [], hW', trodAll_mk1 (shut_bool Tryd.underlying4 _), hre bel, rfl, bel.frame _, fun h => by cases h⟩
theorem said : Rows.ScriptLinesSaid :=
  OpenClaim.holds_of_wide 3 Tryd.f3 rfl rfl rfl rfl rfl rfl rfl ⟨rfl, rfl, rfl, rfl, rfl⟩ rfl rfl rfl rfl rfl (by kernel_rfl) Tryd.func3 (by kernel_rfl)
    (of_decide_eq_true (by kernel_rfl)) (by unfold Func.isWrapper; first | (rw [if_pos (by decide +kernel)]; kernel_rfl) | (rw [if_neg (by decide +kernel)]; exact ⟨rfl, rfl⟩))
    (fun os started H enc _ => lifted os started H enc)
theorem plain (f : FuncId) (fn : Func) (hf : Tryd.pinned.checked.prog.funcNamed "ramble/ramblelaw25.ScriptLines" = some f) (hfn : Tryd.pinned.checked.prog.funcs[f]? = some fn) :
    true = Tryd.pinned.checked.prog.looks [] ∧ ∀ (j : Nat) t, fn.params[j]? = some t → Tryd.pinned.checked.prog.wantsStandIn t = false := by
  obtain rfl : f = 3 := Option.some.inj ((show Tryd.prog.funcNamed "ramble/ramblelaw25.ScriptLines" = some 3 by kernel_rfl).symm.trans hf) |>.symm
  obtain rfl : fn = Tryd.f3 := (Option.some.inj (Tryd.func3.symm.trans hfn)).symm
  refine ⟨by kernel_rfl, fun j t ht => ?_⟩
  rw [Tryd.params3] at ht
  have hm : t ∈ [23, 9, 2] := by simpa using Array.mem_of_getElem? ht
  have hall : ([23, 9, 2].all fun u => !Tryd.prog.wantsStandIn u) = true := by kernel_rfl
  exact (show Tryd.prog.wantsStandIn t = false by simpa using List.all_eq_true.1 hall t hm)
theorem card : Rows.ScriptLinesCardSaid :=
  Claim7.holds_tied_plain_at .later [] _ _ _ _ said (fun _ h => by cases h) (by kernel_rfl) (fun _ h => by cases h) scriptLines_row_tie rfl ⟨rfl, rfl⟩ (by kernel_rfl) rfl plain (by kernel_rfl)
#print axioms card
end Go.Proofs.YtbeaalkfakjoiaaDoor.scriptLines
namespace Go.Proofs.YtbeaalkfakjoiaaDoor
theorem scriptLines_holds : Rows.ScriptLinesCardSaid := scriptLines.card
end Go.Proofs.YtbeaalkfakjoiaaDoor

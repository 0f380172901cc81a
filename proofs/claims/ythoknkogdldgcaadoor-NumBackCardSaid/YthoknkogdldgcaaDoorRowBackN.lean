/- The card NumBack: a number's text says it, and what a text says has it as its text; its bytes say it, whatever stands behind: from the law over plain values. -/
import Derived.Test.YthoknkogdldgcaaDoorCards
import Derived.Test.YthoknkogdldgcaaDoorTie
import Derived.Test.YthoknkogdldgcaaDoorBackN
import Derived.Test.YthoknkogdldgcaaDoorGlN
import Derived.Test.YthoknkogdldgcaaDoorAmZ
import Derived.WalkKit
import Derived.ProofKit
import Derived.OpenShut
import Derived.ShutString
import Derived.ChangeOld
import Derived.Below
import Derived.SizedLaws
import Derived.LaidMore
import Derived.Lay
import Derived.SevenTiedAt
import Derived.Deep.DeepHandedRow
namespace Go.Proofs.YthoknkogdldgcaaDoor.numBack
open Go.AM Go.ChangeShapes Go.WideShapes Go.ChangeAt Go.RowKit
set_option linter.unusedVariables false
theorem own : ownKnob Tryd.prog.godebug = none := by kernel_rfl
theorem laidOut : laidOutB Tryd.prog = true := by kernel_rfl
set_option maxRecDepth 100000 in
theorem lifted (os : Os) (started : os.Started) (H : Type) (enc : TypeId × Value → H) :
    ReturnsInHanded {} Tryd.checked os 4 .any (fun w args => (Rows.numBackSpec.pre enc Tryd.prog Tryd.f4 Rows.numBackRow.domain false w args ∧ laidMetH Tryd.prog Rows.numBackRow.laid w) ∧ sizedMet enc Tryd.prog Tryd.f4 (OpenSpec.ofChange Rows.numBackSpec) false w args)
      (Rows.numBackSpec.post enc Tryd.prog Tryd.f4 false true false false) := by
  refine returnsInHanded_of_change_and (C := Tryd.checked) (X := fun w _ => laidMetH Tryd.prog Rows.numBackRow.laid w) (fun _ _ _ hh h => h.of_heap hh) own started (by kernel_rfl) Tryd.func4
    (ChangeSpec.witness_shaped (enc := enc) (C := Tryd.checked) (os := os) (X := fun w _ => laidMetH Tryd.prog Rows.numBackRow.laid w) false (World.laidAll Tryd.prog os Rows.numBackRow.laid) #[.int .i64 0, .string ⟨#[]⟩, .int .u64 0, .slice none 0 0] 8 (World.laidAll_os _ _ _)
      (World.shaped_of_ZipB (by kernel_rfl) (by kernel_rfl)) (by kernel_rfl) (by kernel_rfl) (by kernel_rfl)
      (by rw [MakeChecks.laidMetH_plain _ _ _ (by kernel_rfl)]; exact laidMet_laidAll _ (by kernel_rfl) (by kernel_rfl))) ?_
  intro W base args ds gs before hval hW hcnd hsz hX _
  have hW' := hW
  obtain ⟨p, q, hA, hV, rfl, hfz, hnd⟩ := hW
  obtain ⟨rfl, rfl⟩ := trodVars_none hV
  have hlt : ∀ x ∈ p, x.block < W.heap.size := fun x hx => by simpa using hW'.lt x (by simpa using hx)
  obtain ⟨qs, k1, k2, k3⟩ := args_av laidOut (ts := Tryd.f4.params.toList) (vs := args.toList) (by rw [Tryd.params4]; exact of_decide_eq_true (by kernel_rfl)) (fun j t v h1 h2 => hval j t v (by rw [← Array.getElem?_toList]; exact h1) (by rw [← Array.getElem?_toList]; exact h2)) hA
  have hre := fun {W' : World} (hb : Below W.heap.size W W') => reread laidOut hb (ts := Tryd.f4.params.toList) (by kernel_rfl) hA hlt
  rw [Tryd.params4] at k3
  obtain ⟨d0, ds0, q0, qs0, rfl, rfl, v0, r0⟩ := av_cons k3
  obtain ⟨d1, ds1, q1, qs1, rfl, rfl, v1, r1⟩ := av_cons r0
  obtain ⟨d2, ds2, q2, qs2, rfl, rfl, v2, r2⟩ := av_cons r1
  obtain ⟨d3, ds3, q3, qs3, rfl, rfl, v3, r3⟩ := av_cons r2
  obtain ⟨rfl, rfl⟩ := av_nil r3
  obtain ⟨a0, rfl, e0, ha0⟩ := tv_int Tryd.underlying2 (av_of_tv (by kernel_rfl) v0)
  injection e0 with e0
  subst e0
  obtain ⟨a1, rfl, e1, ha1⟩ := tv_str Tryd.underlying9 (av_of_tv (by kernel_rfl) v1)
  injection e1 with e1
  subst e1
  obtain ⟨a2, rfl, e2, ha2⟩ := tv_int Tryd.underlying30 (av_of_tv (by kernel_rfl) v2)
  injection e2 with e2
  subst e2
  obtain ⟨n2, rfl⟩ : ∃ n : Nat, a2 = n := Int.eq_ofNat_of_zero_le (by have h : IntKind.u64.min = 0 := rfl; rw [h] at ha2; exact ha2.1)
  have hu2 : n2 < 18446744073709551616 := by
    have h : IntKind.u64.max = 18446744073709551615 := rfl
    rw [h] at ha2
    omega
  obtain ⟨a3, ha3, hx3⟩ := tv_bytes Tryd.underlying31 Tryd.underlying5 (of_decide_eq_true (by kernel_rfl)) (av_of_tv (by kernel_rfl) v3)
  have hz : (DataW.weightsEach Tryd.prog ([2, 9, 30, 31] ++ Rows.numBackSpec.plain.varTypes Tryd.prog) ([.lit (.int .i64 a0), .lit (.string a1), .lit (.int .u64 n2), d3] ++ [])).all (· ≤ reachBytes) = true := hsz
  have hl1 : a1.length ≤ 140737488355328 := by
    have h := sized_string hz (j := 1) (t := 9) rfl rfl
    have := reachBytes_lt
    omega
  have hl3 : a3.length ≤ 140737488351232 := by
    rcases hx3 with ⟨_, rfl⟩ | ⟨dl, rest, rfl, hl⟩
    · simp
    · have h := List.all_eq_true.1 hz _ (DataW.weights_mem_each (ts := [2, 9, 30, 31] ++ Rows.numBackSpec.plain.varTypes Tryd.prog) (j := 3) (t := 31) rfl rfl _ (by simp only [DataW.weights, Tryd.underlying31]; exact List.mem_cons_self))
      have h8 : Tryd.prog.bytesOf 5 = 1 := by kernel_rfl
      rw [h8] at h
      simp only [decide_eq_true_eq] at h
      unfold reachBytes at h
      omega
  have hL := hX
  rw [MakeChecks.laidMetH_plain _ _ _ (by kernel_rfl)] at hL
  have law : T.R (.call 4 [.int .i64 a0, .str a1, .int .u64 n2, q3] (.bool true)) := law_NumBack ha0 (by omega) hu2 ha3 hl3
  have sem : SemCall Tryd.prog 4 [.int .i64 a0, .str a1, .int .u64 n2, q3] (.bool true) := run_sound tbl_ok P_sem (fun _ _ _ h => h.elim) law
  refine (law_call sem (by simpa using k1) k2 (gl_of hL)).mono fun e W' ⟨he, bel⟩ => ?_
  subst he
  exact ⟨_, rfl, _, _, _, [], _, [], hW', trodAll_mk1 (shut_bool Tryd.underlying4 _), hre bel, rfl, bel.frame _, fun h => by cases h⟩
theorem said : Rows.NumBackSaid :=
  OpenClaim.holds_of_wide 4 Tryd.f4 rfl rfl rfl rfl rfl rfl rfl ⟨rfl, rfl, rfl, rfl, rfl⟩ rfl rfl rfl rfl rfl (by kernel_rfl) Tryd.func4 (by kernel_rfl)
    (of_decide_eq_true (by kernel_rfl)) (by unfold Func.isWrapper; first | (rw [if_pos (by decide +kernel)]; kernel_rfl) | (rw [if_neg (by decide +kernel)]; exact ⟨rfl, rfl⟩))
    (fun os started H enc _ => lifted os started H enc)
theorem plain (f : FuncId) (fn : Func) (hf : Tryd.pinned.checked.prog.funcNamed "ramble/ramblelaw01.NumBack" = some f) (hfn : Tryd.pinned.checked.prog.funcs[f]? = some fn) :
    true = Tryd.pinned.checked.prog.looks [] ∧ ∀ (j : Nat) t, fn.params[j]? = some t → Tryd.pinned.checked.prog.wantsStandIn t = false := by
  obtain rfl : f = 4 := Option.some.inj ((show Tryd.prog.funcNamed "ramble/ramblelaw01.NumBack" = some 4 by kernel_rfl).symm.trans hf) |>.symm
  obtain rfl : fn = Tryd.f4 := (Option.some.inj (Tryd.func4.symm.trans hfn)).symm
  refine ⟨by kernel_rfl, fun j t ht => ?_⟩
  rw [Tryd.params4] at ht
  have hm : t ∈ [2, 9, 30, 31] := by simpa using Array.mem_of_getElem? ht
  have hall : ([2, 9, 30, 31].all fun u => !Tryd.prog.wantsStandIn u) = true := by kernel_rfl
  exact (show Tryd.prog.wantsStandIn t = false by simpa using List.all_eq_true.1 hall t hm)
theorem card : Rows.NumBackCardSaid :=
  Claim7.holds_tied_plain_at .later [] _ _ _ _ said (fun _ h => by cases h) (by kernel_rfl) (fun _ h => by cases h) numBack_row_tie rfl ⟨rfl, rfl⟩ (by kernel_rfl) rfl plain (by kernel_rfl)
#print axioms card
end Go.Proofs.YthoknkogdldgcaaDoor.numBack
namespace Go.Proofs.YthoknkogdldgcaaDoor
theorem numBack_holds : Rows.NumBackCardSaid := numBack.card
end Go.Proofs.YthoknkogdldgcaaDoor

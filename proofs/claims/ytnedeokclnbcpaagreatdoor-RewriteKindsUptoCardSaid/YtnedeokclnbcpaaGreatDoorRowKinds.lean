/- The card RewriteKinds, its second form (what it reads is of bulk at most 1048576): what check takes it takes of the rewritten, and tells no other kinds: from the law over plain values. -/
import Derived.Test.YtnedeokclnbcpaaGreatDoorCards
import Derived.Test.YtnedeokclnbcpaaGreatDoorTie
import Derived.Test.YtnedeokclnbcpaaGreatDoorInIToLawKinds
import Derived.Test.YtnedeokclnbcpaaGreatDoorPrimRToRowStpW
import Derived.Test.YtnedeokclnbcpaaGreatDoorAmZ
import Derived.WalkKit
import Derived.ProofKit
import Derived.OpenShut
import Derived.ShutString
import Derived.ChangeOld
import Derived.Below
import Derived.SizedLaws
import Derived.LaidMore
import Derived.Lay
import Derived.SevenTiedAt
import Derived.Deep.DeepHandedRow
set_option linter.unusedVariables false
namespace Go.Proofs.YtnedeokclnbcpaaGreatDoor.rewriteKinds
open Go.AM Go.ChangeShapes Go.WideShapes Go.ChangeAt Go.RowKit
theorem own:ownKnob Tryz.prog.godebug=none:=by kernel_rfl
theorem laidOut:laidOutB Tryz.prog=true:=by kernel_rfl
noncomputable def w0 (os:Os):World:=World.laidAll Tryz.prog os Rows.rewriteKindsUptoRow.laid
theorem reads (os:Os) {H:Type} (enc:TypeId×Value→H):∃places, DataW.whole enc Tryz.prog ((w0 os).forCall (fun _ _=>0) ⟨#[], #[.int .i64 0, .slice none 0 0], []⟩).memory Tryz.f6.params.toList Rows.rewriteKindsSpec.vars false #[Value.int .i64 0, Value.slice none 0 0].toList 8=some ([.lit (.int .i64 0), .nil], [], places):=
 ⟨[], by kernel_rfl⟩
set_option maxRecDepth 100000 in
theorem lifted (os:Os) (started:os.Started) (H:Type) (enc:TypeId×Value→H) (F:Stop.Interp):
  ReturnsInHanded {} Tryz.checked os 6 .any ((Rows.OpenSpec.upto Rows.rewriteKindsSpec).preRow enc Tryz.prog Tryz.f6 Rows.rewriteKindsUptoRow.domain false Rows.rewriteKindsUptoRow.laid) (((Rows.OpenSpec.upto Rows.rewriteKindsSpec).at F).post enc Tryz.prog Tryz.f6 false true false false):=by
 obtain ⟨places, hx⟩:=reads os enc
 refine returnsInHanded_of_row (C:=Tryz.checked) (s:=Rows.OpenSpec.upto Rows.rewriteKindsSpec) own started (by kernel_rfl) Tryz.func6
  ⟨w0 os, fun _ _=>0, ⟨#[], #[.int .i64 0, .slice none 0 0], []⟩, World.laidAll_os _ _ _, World.shaped_of_ZipB (by kernel_rfl) (by kernel_rfl),
   (Input.okWide_of_okWideB (base:=0) (P:=Tryz.prog) (w:=(w0 os).forCall (fun _ _=>0) ⟨#[], #[.int .i64 0, .slice none 0 0], []⟩) (f:=6) (i:=⟨#[], #[.int .i64 0, .slice none 0 0], []⟩) (by kernel_rfl)).1,
   (Input.okWide_of_okWideB (P:=Tryz.prog) (w:=(w0 os).forCall (fun _ _=>0) ⟨#[], #[.int .i64 0, .slice none 0 0], []⟩) (f:=6) (i:=⟨#[], #[.int .i64 0, .slice none 0 0], []⟩) (by kernel_rfl)).2,
   OpenSpec.preRow_of_cond 8 hx (by kernel_rfl) (fun k hk=>by cases hk;kernel_rfl) (by kernel_rfl) (by rw [MakeChecks.laidMetH_plain _ _ _ (by kernel_rfl)];exact laidMet_laidAll _ (by kernel_rfl) (by kernel_rfl)),
   by simp only [Assume.holds];exact ⟨by simp, by simp, fun _=>Modest.zero, by simp, by simp⟩⟩ ?_
 intro W base args ds gs before hval hW _ hcond hsz _ _ _
 have hk:=hcond _ rfl
 have hW':=hW
 obtain ⟨p, q, hA, hV, rfl, hfz, hnd⟩:=hW
 obtain ⟨rfl, rfl⟩:=trodVars_none hV
 have hlt:∀x∈p, x.block<W.heap.size:=fun x hx=>by simpa using hW'.lt x (by simpa using hx)
 obtain ⟨qs, k1, k2, k3⟩:=args_av laidOut (ts:=Tryz.f6.params.toList) (vs:=args.toList) (by rw [Tryz.params6];exact of_decide_eq_true (by kernel_rfl)) (fun j t v h1 h2=>hval j t v (by rw [←Array.getElem?_toList];exact h1) (by rw [←Array.getElem?_toList];exact h2)) hA
 have hre:=fun {W':World} (hb:Below W.heap.size W W')=>reread laidOut hb (ts:=Tryz.f6.params.toList) (by kernel_rfl) hA hlt
 rw [Tryz.params6] at k3
 obtain ⟨d0, ds0, q0, qs0, rfl, rfl, v0, r0⟩:=av_cons k3
 obtain ⟨d1, ds1, q1, qs1, rfl, rfl, v1, r1⟩:=av_cons r0
 obtain ⟨rfl, rfl⟩:=av_nil r1
 have hbulk:Rows.uptoBulk d0+(Rows.uptoBulk d1+0)≤1048576:=of_decide_eq_true hk
 obtain ⟨a0, rfl, e0, ha0⟩:=Zpd Tryz.underlying3 (av_of_tv (by kernel_rfl) v0)
 injection e0 with e0
 subst e0
 have hz:(DataW.weightsEach Tryz.prog ([3, 22]++Rows.rewriteKindsSpec.plain.varTypes Tryz.prog) ([.lit (.int .i64 a0), d1]++[])).all (· ≤ reachBytes)=true:=hsz
 obtain ⟨p1, l1, e1, s1, c1, n1⟩:=rd_stpsW wgt_ok (av_of_tv (by kernel_rfl) v1) (wgt_each hz 1 22 d1 rfl rfl)
 injection e1 with e1
 subst e1
 have law:T.R (.call 6 [.int .i64 a0, q1] (.bool true)):=run_Kinds s1 (by omega) a0
 have sem:Zhg Tryz.prog 6 [.int .i64 a0, q1] (.bool true):=run_sound tbl_ok P_sem X_sem law
 refine (law_call sem (by simpa using k1) k2).mono fun e W' ⟨he, bel⟩=>?_
 subst he
 exact ⟨_, rfl, _, _, _, [], _, [], hW', trodAll_mk1 (shut_bool Tryz.underlying4 _), hre bel, rfl, bel.frame _, fun h=>by cases h⟩
theorem said:Rows.RewriteKindsUptoSaid:=
 OpenClaim.holds_of_cond 6 Tryz.f6 rfl rfl rfl rfl rfl rfl rfl ⟨rfl, rfl, rfl, rfl, rfl⟩ rfl rfl rfl rfl rfl (by kernel_rfl) Tryz.func6 (by kernel_rfl)
  (of_decide_eq_true (by kernel_rfl)) (by unfold Func.isWrapper;first|(rw [if_pos (by decide +kernel)];kernel_rfl)|(rw [if_neg (by decide +kernel)];exact ⟨rfl, rfl⟩))
  (fun os started H enc _ F=>by rw [OpenClaim.pre_eq_preRow];exact lifted os started H enc F)
theorem plain (f:FuncId) (fn:Func) (hf:Tryz.pinned.checked.prog.funcNamed "ramble/ramblelaw20.RewriteKinds" =some f) (hfn:Tryz.pinned.checked.prog.funcs[f]?=some fn):
  false=Tryz.pinned.checked.prog.looks []∧∀(j:Nat) t, fn.params[j]?=some t→Tryz.pinned.checked.prog.wantsStandIn t=false:=by
 obtain rfl:f=6:=Option.some.inj ((show Tryz.prog.funcNamed "ramble/ramblelaw20.RewriteKinds" =some 6 by kernel_rfl).symm.trans hf) |>.symm
 obtain rfl:fn=Tryz.f6:=(Option.some.inj (Tryz.func6.symm.trans hfn)).symm
 refine ⟨by kernel_rfl, fun j t ht=>?_⟩
 rw [Tryz.params6] at ht
 have hm:t∈[3, 22]:=by simpa using Array.mem_of_getElem? ht
 have hall:([3, 22].all fun u=>!Tryz.prog.wantsStandIn u)=true:=by kernel_rfl
 exact (show Tryz.prog.wantsStandIn t=false by simpa using List.all_eq_true.1 hall t hm)
theorem card:Rows.RewriteKindsUptoCardSaid:=
 Claim7.holds_tied_plain_at .later [] _ _ _ _ said (fun _ h=>by cases h) (by kernel_rfl) (fun _ h=>by cases h) rewriteKindsUpto_row_tie rfl ⟨rfl, rfl⟩ (by kernel_rfl) rfl plain (by kernel_rfl)
#print axioms card
end Go.Proofs.YtnedeokclnbcpaaGreatDoor.rewriteKinds
namespace Go.Proofs.YtnedeokclnbcpaaGreatDoor
theorem rewriteKinds_holds:Rows.RewriteKindsUptoCardSaid:=rewriteKinds.card
end Go.Proofs.YtnedeokclnbcpaaGreatDoor

/- The card RewriteIs: any steps in a shorter way: from the law over plain values. -/
import Derived.Test.YtnedeokclnbcpaaGreatDoorCards
import Derived.Test.YtnedeokclnbcpaaGreatDoorTie
import Derived.Test.YtnedeokclnbcpaaGreatDoorLawIs
import Derived.Test.YtnedeokclnbcpaaGreatDoorPrimRToRowStp
import Derived.Test.YtnedeokclnbcpaaGreatDoorAmZ
import Derived.WalkKit
import Derived.ProofKit
import Derived.OpenShut
import Derived.ShutString
import Derived.ChangeOld
import Derived.Below
import Derived.SizedLaws
import Derived.LaidMore
import Derived.Lay
import Derived.SevenTiedAt
import Derived.Deep.DeepHandedRow
set_option linter.unusedVariables false
namespace Go.Proofs.YtnedeokclnbcpaaGreatDoor.rewriteIs
open Go.AM Go.ChangeShapes Go.WideShapes Go.ChangeAt Go.RowKit
theorem own:ownKnob Tryz.prog.godebug=none:=by kernel_rfl
theorem laidOut:laidOutB Tryz.prog=true:=by kernel_rfl
set_option maxRecDepth 100000 in
theorem lifted (os:Os) (started:os.Started) (H:Type) (enc:TypeId×Value→H):
  ReturnsInHanded {} Tryz.checked os 3 .any (fun w args=>(Rows.rewriteIsSpec.pre enc Tryz.prog Tryz.f3 Rows.rewriteIsRow.domain false w args∧laidMetH Tryz.prog Rows.rewriteIsRow.laid w)∧sizedMet enc Tryz.prog Tryz.f3 (OpenSpec.ofChange Rows.rewriteIsSpec) false w args)
   (Rows.rewriteIsSpec.post enc Tryz.prog Tryz.f3 false true false false):=by
 refine returnsInHanded_of_change_and (C:=Tryz.checked) (X:=fun w _=>laidMetH Tryz.prog Rows.rewriteIsRow.laid w) (fun _ _ _ hh h=>h.of_heap hh) own started (by kernel_rfl) Tryz.func3
  (ChangeSpec.witness_shaped (enc:=enc) (C:=Tryz.checked) (os:=os) (X:=fun w _=>laidMetH Tryz.prog Rows.rewriteIsRow.laid w) false (World.laidAll Tryz.prog os Rows.rewriteIsRow.laid) #[.slice none 0 0] 8 (World.laidAll_os _ _ _)
   (World.shaped_of_ZipB (by kernel_rfl) (by kernel_rfl)) (by kernel_rfl) (by kernel_rfl) (by kernel_rfl)
   (by rw [MakeChecks.laidMetH_plain _ _ _ (by kernel_rfl)];exact laidMet_laidAll _ (by kernel_rfl) (by kernel_rfl))) ?_
 intro W base args ds gs before hval hW hcnd hsz hX _
 have hW':=hW
 obtain ⟨p, q, hA, hV, rfl, hfz, hnd⟩:=hW
 obtain ⟨rfl, rfl⟩:=trodVars_none hV
 have hlt:∀x∈p, x.block<W.heap.size:=fun x hx=>by simpa using hW'.lt x (by simpa using hx)
 obtain ⟨qs, k1, k2, k3⟩:=args_av laidOut (ts:=Tryz.f3.params.toList) (vs:=args.toList) (by rw [Tryz.params3];exact of_decide_eq_true (by kernel_rfl)) (fun j t v h1 h2=>hval j t v (by rw [←Array.getElem?_toList];exact h1) (by rw [←Array.getElem?_toList];exact h2)) hA
 have hre:=fun {W':World} (hb:Below W.heap.size W W')=>reread laidOut hb (ts:=Tryz.f3.params.toList) (by kernel_rfl) hA hlt
 rw [Tryz.params3] at k3
 obtain ⟨d0, ds0, q0, qs0, rfl, rfl, v0, r0⟩:=av_cons k3
 obtain ⟨rfl, rfl⟩:=av_nil r0
 have hz:(DataW.weightsEach Tryz.prog ([22]++Rows.rewriteIsSpec.plain.varTypes Tryz.prog) ([d0]++[])).all (· ≤ reachBytes)=true:=hsz
 obtain ⟨q, l, e2, hl⟩:=rd_stps wgt_ok (av_of_tv (by kernel_rfl) v0) (wgt_each hz 0 22 d0 rfl rfl)
 injection e2 with e2
 subst e2
 have law:T.R (.call 3 [q0] (.bool true)):=run_Is hl
 have sem:Zii Tryz.prog 3 [q0] (.bool true):=run_sound tbl_ok P_sem X_sem law
 refine (law_call sem (by simpa using k1) k2).mono fun e W' ⟨he, bel⟩=>?_
 subst he
 exact ⟨_, rfl, _, _, _, [], _, [], hW', trodAll_mk1 (shut_bool Tryz.underlying4 _), hre bel, rfl, bel.frame _, fun h=>by cases h⟩
theorem said:Rows.RewriteIsSaid:=
 OpenClaim.holds_of_wide 3 Tryz.f3 rfl rfl rfl rfl rfl rfl rfl ⟨rfl, rfl, rfl, rfl, rfl⟩ rfl rfl rfl rfl rfl (by kernel_rfl) Tryz.func3 (by kernel_rfl)
  (of_decide_eq_true (by kernel_rfl)) (by unfold Func.isWrapper;first|(rw [if_pos (by decide +kernel)];kernel_rfl)|(rw [if_neg (by decide +kernel)];exact ⟨rfl, rfl⟩))
  (fun os started H enc _=>lifted os started H enc)
theorem plain (f:FuncId) (fn:Func) (hf:Tryz.pinned.checked.prog.funcNamed "ramble/ramblelaw20.RewriteIs" =some f) (hfn:Tryz.pinned.checked.prog.funcs[f]?=some fn):
  false=Tryz.pinned.checked.prog.looks []∧∀(j:Nat) t, fn.params[j]?=some t→Tryz.pinned.checked.prog.wantsStandIn t=false:=by
 obtain rfl:f=3:=Option.some.inj ((show Tryz.prog.funcNamed "ramble/ramblelaw20.RewriteIs" =some 3 by kernel_rfl).symm.trans hf) |>.symm
 obtain rfl:fn=Tryz.f3:=(Option.some.inj (Tryz.func3.symm.trans hfn)).symm
 refine ⟨by kernel_rfl, fun j t ht=>?_⟩
 rw [Tryz.params3] at ht
 have hm:t∈[22]:=by simpa using Array.mem_of_getElem? ht
 have hall:([22].all fun u=>!Tryz.prog.wantsStandIn u)=true:=by kernel_rfl
 exact (show Tryz.prog.wantsStandIn t=false by simpa using List.all_eq_true.1 hall t hm)
theorem card:Rows.RewriteIsCardSaid:=
 Claim7.holds_tied_plain_at .later [] _ _ _ _ said (fun _ h=>by cases h) (by kernel_rfl) (fun _ h=>by cases h) rewriteIs_row_tie rfl ⟨rfl, rfl⟩ (by kernel_rfl) rfl plain (by kernel_rfl)
#print axioms card
end Go.Proofs.YtnedeokclnbcpaaGreatDoor.rewriteIs
namespace Go.Proofs.YtnedeokclnbcpaaGreatDoor
theorem rewriteIs_holds:Rows.RewriteIsCardSaid:=rewriteIs.card
end Go.Proofs.YtnedeokclnbcpaaGreatDoor

/- The card ScriptTexts (the second form): the text of any script, and the script of any text, or which line is wrong: from the law over plain values. -/
import Derived.Test.YtbeaalkfakjoiaaDoorCards
import Derived.Test.YtbeaalkfakjoiaaDoorTie
import Derived.Test.YtbeaalkfakjoiaaDoorScrVToRowScr
import Derived.Test.YtbeaalkfakjoiaaDoorAmZ
import Derived.WalkKit
import Derived.ProofKit
import Derived.OpenShut
import Derived.ShutString
import Derived.ChangeOld
import Derived.Below
import Derived.SizedLaws
import Derived.LaidMore
import Derived.Lay
import Derived.SevenTiedAt
import Derived.Deep.DeepHandedRow
namespace Go.Proofs.YtbeaalkfakjoiaaDoor.scriptTexts
open Go.AM Go.ChangeShapes Go.WideShapes Go.ChangeAt Go.RowKit
set_option linter.unusedVariables false
theorem own : ownKnob Tryd.prog.godebug = none := by kernel_rfl
theorem laidOut : laidOutB Tryd.prog = true := by kernel_rfl
noncomputable def w0 (os : Os) : World := World.laidAll Tryd.prog os Rows.scriptTextsUptoRow.laid
theorem reads (os : Os) {H : Type} (enc : TypeId × Value → H) : ∃ places, DataW.whole enc Tryd.prog ((w0 os).forCall (fun _ _ => 0) ⟨#[], #[.agg #[.int .i64 0, .int .i64 0, .int .i64 0, .slice none 0 0], .string ⟨#[]⟩], []⟩).memory Tryd.f5.params.toList Rows.scriptTextsSpec.vars false (#[.agg #[.int .i64 0, .int .i64 0, .int .i64 0, .slice none 0 0], .string ⟨#[]⟩] : Array Value).toList 8 = some ([.agg [.lit (.int .i64 0), .lit (.int .i64 0), .lit (.int .i64 0), .nil], .lit (.string [])], [], places) :=
  ⟨[], by kernel_rfl⟩
set_option maxRecDepth 100000 in
theorem lifted (os : Os) (started : os.Started) (H : Type) (enc : TypeId × Value → H) (F : Stop.Interp) :
    ReturnsInHanded {} Tryd.checked os 5 .any ((Rows.OpenSpec.upto Rows.scriptTextsSpec).preRow enc Tryd.prog Tryd.f5 Rows.scriptTextsUptoRow.domain false Rows.scriptTextsUptoRow.laid) (((Rows.OpenSpec.upto Rows.scriptTextsSpec).at F).post enc Tryd.prog Tryd.f5 false true false false) := by
  obtain ⟨places, hx⟩ := reads os enc
  refine returnsInHanded_of_row (C := Tryd.checked) (s := Rows.OpenSpec.upto Rows.scriptTextsSpec) own started (by kernel_rfl) Tryd.func5
    ⟨w0 os, fun _ _ => 0, ⟨#[], #[.agg #[.int .i64 0, .int .i64 0, .int .i64 0, .slice none 0 0], .string ⟨#[]⟩], []⟩, World.laidAll_os _ _ _, World.shaped_of_ZipB (by kernel_rfl) (by kernel_rfl),
      (Input.okWide_of_okWideB (base := 0) (P := Tryd.prog) (w := (w0 os).forCall (fun _ _ => 0) ⟨#[], #[.agg #[.int .i64 0, .int .i64 0, .int .i64 0, .slice none 0 0], .string ⟨#[]⟩], []⟩) (f := 5) (i := ⟨#[], #[.agg #[.int .i64 0, .int .i64 0, .int .i64 0, .slice none 0 0], .string ⟨#[]⟩], []⟩) (by kernel_rfl)).1,
      (Input.okWide_of_okWideB (P := Tryd.prog) (w := (w0 os).forCall (fun _ _ => 0) ⟨#[], #[.agg #[.int .i64 0, .int .i64 0, .int .i64 0, .slice none 0 0], .string ⟨#[]⟩], []⟩) (f := 5) (i := ⟨#[], #[.agg #[.int .i64 0, .int .i64 0, .int .i64 0, .slice none 0 0], .string ⟨#[]⟩], []⟩) (by kernel_rfl)).2,
      OpenSpec.preRow_of_cond 8 hx (by kernel_rfl) (fun k hk => by cases hk; kernel_rfl) (by kernel_rfl) (by rw [MakeChecks.laidMetH_plain _ _ _ (by kernel_rfl)]; exact laidMet_laidAll _ (by kernel_rfl) (by kernel_rfl)),
      by simp only [Assume.holds]; exact ⟨by simp, by simp, fun _ => Modest.zero, by simp, by simp⟩⟩ ?_
  intro W base args ds gs before hval hW hlaid hcond hsz hLa _ _
  have hk := hcond _ rfl
  have hW' := hW
  obtain ⟨p, q, hA, hV, rfl, hfz, hnd⟩ := hW
  obtain ⟨rfl, rfl⟩ := trodVars_none hV
  have hlt : ∀ x ∈ p, x.block < W.heap.size := fun x hx => by simpa using hW'.lt x (by simpa using hx)
  obtain ⟨qs, k1, k2, k3⟩ := args_av laidOut (ts := Tryd.f5.params.toList) (vs := args.toList) (by rw [Tryd.params5]; exact of_decide_eq_true (by kernel_rfl)) (fun j t v h1 h2 => hval j t v (by rw [← Array.getElem?_toList]; exact h1) (by rw [← Array.getElem?_toList]; exact h2)) hA
  have hre := fun {W' : World} (hb : Below W.heap.size W W') => reread laidOut hb (ts := Tryd.f5.params.toList) (by kernel_rfl) hA hlt
  rw [Tryd.params5] at k3
  obtain ⟨d0, ds0, q0, qs0, rfl, rfl, v0, r0⟩ := av_cons k3
  obtain ⟨d1, ds1, q1, qs1, rfl, rfl, v1, r1⟩ := av_cons r0
  obtain ⟨rfl, rfl⟩ := av_nil r1
  have hbulk : Rows.uptoBulk d0 + (Rows.uptoBulk d1 + 0) ≤ 1048576 := of_decide_eq_true hk
  have hz : (DataW.weightsEach Tryd.prog ([37, 9] ++ Rows.scriptTextsSpec.plain.varTypes Tryd.prog) ([d0, d1] ++ [])).all (· ≤ reachBytes) = true := hsz
  obtain ⟨a0, b0, c0, l0, rfl, h0, s0, m0⟩ := scr_arg v0 (wgt_each hz 0 37 d0 rfl rfl)
  obtain ⟨a1, rfl, e1, ha1⟩ := tv_str Tryd.underlying9 (av_of_tv (by kernel_rfl) v1)
  injection e1 with e1
  subst e1
  have hl1 : a1.length ≤ 1048576 := by simp only [Rows.uptoBulk] at hbulk; omega
  have hL := hLa
  rw [MakeChecks.laidMetH_plain _ _ _ (by kernel_rfl)] at hL
  have law : T2.R (.call 5 [.agg [.int .i64 a0.1, .int .i64 a0.2.1, .int .i64 a0.2.2, b0], .str a1] (.bool true)) := run_Texts h0 m0 s0 (by omega) (by omega)
  have sem : SemCall Tryd.prog 5 [.agg [.int .i64 a0.1, .int .i64 a0.2.1, .int .i64 a0.2.2, b0], .str a1] (.bool true) := run_sound tbl_ok P2_sem X_sem law
  refine (law_call sem (by simpa using k1) k2 (gl_of hL)).mono fun e W' ⟨he, bel⟩ => ?_
  subst he
  exact ⟨_, rfl, _, _, _, [], _, [], hW', trodAll_mk1 (shut_bool Tryd.underlying4 _), hre bel, rfl, bel.frame _, fun h => by cases h⟩
theorem said : Rows.ScriptTextsUptoSaid :=
  OpenClaim.holds_of_cond 5 Tryd.f5 rfl rfl rfl rfl rfl rfl rfl ⟨rfl, rfl, rfl, rfl, rfl⟩ rfl rfl rfl rfl rfl (by kernel_rfl) Tryd.func5 (by kernel_rfl)
    (of_decide_eq_true (by kernel_rfl)) (by unfold Func.isWrapper; first | (rw [if_pos (by decide +kernel)]; kernel_rfl) | (rw [if_neg (by decide +kernel)]; exact ⟨rfl, rfl⟩))
    (fun os started H enc _ F => by rw [OpenClaim.pre_eq_preRow]; exact lifted os started H enc F)
theorem plain (f : FuncId) (fn : Func) (hf : Tryd.pinned.checked.prog.funcNamed "ramble/ramblelaw25.ScriptTexts" = some f) (hfn : Tryd.pinned.checked.prog.funcs[f]? = some fn) :
    true = Tryd.pinned.checked.prog.looks [] ∧ ∀ (j : Nat) t, fn.params[j]? = some t → Tryd.pinned.checked.prog.wantsStandIn t = false := by
  obtain rfl : f = 5 := Option.some.inj ((show Tryd.prog.funcNamed "ramble/ramblelaw25.ScriptTexts" = some 5 by kernel_rfl).symm.trans hf) |>.symm
  obtain rfl : fn = Tryd.f5 := (Option.some.inj (Tryd.func5.symm.trans hfn)).symm
  refine ⟨by kernel_rfl, fun j t ht => ?_⟩
  rw [Tryd.params5] at ht
  have hm : t ∈ [37, 9] := by simpa using Array.mem_of_getElem? ht
  have hall : ([37, 9].all fun u => !Tryd.prog.wantsStandIn u) = true := by kernel_rfl
  exact (show Tryd.prog.wantsStandIn t = false by simpa using List.all_eq_true.1 hall t hm)
theorem card : Rows.ScriptTextsUptoCardSaid :=
  Claim7.holds_tied_plain_at .later [] _ _ _ _ said (fun _ h => by cases h) (by kernel_rfl) (fun _ h => by cases h) scriptTextsUpto_row_tie rfl ⟨rfl, rfl⟩ (by kernel_rfl) rfl plain (by kernel_rfl)
#print axioms card
end Go.Proofs.YtbeaalkfakjoiaaDoor.scriptTexts
namespace Go.Proofs.YtbeaalkfakjoiaaDoor
theorem scriptTexts_holds : Rows.ScriptTextsUptoCardSaid := scriptTexts.card
end Go.Proofs.YtbeaalkfakjoiaaDoor

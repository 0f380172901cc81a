/- begun; the law ScriptApart over plain values. -/
import Derived.Test.YtbeaalkfakjoiaaDoorScrF
set_option linter.unusedVariables false
set_option linter.unusedSimpArgs false
namespace Go.Proofs.YtbeaalkfakjoiaaDoor
open Go Go.AM Go.RowKit
def gV : List UInt8 := [103, 46, 86, 40, 41]
def qLine : List UInt8 := [113, 117, 101, 114, 121, 32, 48, 32, 103, 46, 86, 40, 41]
open Go.Lib in
theorem itoa0 : Lib.itoa 0 = [48] := by
  unfold Lib.itoa
  rw [if_neg (by decide)]
  exact dec_small (by decide)
theorem acc_begun : acc ⟨4, 0, gV, 0, 0⟩ qLine := by
  have h : lineR ⟨4, 0, gV, 0, 0⟩ = (qLine, 0) := by
    have hl : lineC ⟨4, 0, gV, 0, 0⟩ = qLine := by
      unfold lineC
      rw [if_neg (by decide), if_pos (by decide)]
      simp only [itoa0]
      rfl
    unfold lineR
    rw [if_neg (by decide), if_neg (by decide), if_neg (by decide), if_neg (by decide), if_neg (by decide), hl]
  unfold acc
  rw [h]
  exact ⟨rfl, rfl⟩
theorem run_begun : T.R (.call n_ramblelaw25_begun [] (.bool true)) := by
  obtain ⟨o, h1, h2⟩ := run_ParseLine (s := qLine) (by decide)
  have ho := h2.inj (says_of acc_begun (by decide) (by decide) (by decide))
  subst ho
  obtain ⟨p, k1, k2⟩ := run_Keep (n := 5) (by decide)
  have hb : bitsI 5 = [true, false, true] := by decide
  rw [hb] at k2
  have he := run_EqualB k2 (.sl [true, false, true] true) (by decide)
  have plk := pl_k5 4 0 gV 0 0
  have plp : Pl p := k2.pl (fun a _ x hx => by
    have : x = .bool a := by simpa [bc] using hx
    rw [this]; exact .bool _)
  have plb : Pl (.sl ([true, false, true].map bc) true) := .sl _ _ (pl_bc _)
  have e1 : PV.bool (eqC ⟨4, 0, gV, 0, 0⟩ ⟨4, 0, gV, 0, 0⟩) = PV.bool true := by rw [eqC_iff.2 rfl]
  unfold twoC at h1
  refine call_V rfl rfl ?_
  repeat' first | refine O_cA rfl rfl h1 ?_ | refine O_cA rfl rfl k1 ?_ | refine O_cA rfl rfl he ?_ | refine O_is e1 rfl ?_ | refine O_step rfl ?_ | refine O_stepL rfl ?_ | refine V_O rfl ?_ | refine O_step rfl ?_ | refine O_nil' ?_ | refine V_cT rfl rfl ?_ | refine V_cF rfl rfl ?_ | refine V_cEq rfl rfl ?_ | refine V_cNe rfl rfl ?_ | refine V_cB rfl rfl (fun _ => ?_) (fun _ => ?_) | refine O_gT' rfl ?_ | refine O_gU' rfl ?_ | refine O_gF' rfl rfl ?_ | refine O_gEq rfl ?_ | refine O_gNe rfl ?_ | refine O_gS rfl (fun _ => ?_) (fun _ => ?_) | refine V_fA rfl rfl ?_ | refine V_fAN rfl rfl ?_ | refine V_D rfl ?_ | refine D_step rfl ?_ | refine D_nil' ?_ | refine D_gT' rfl ?_ | refine D_gU' rfl ?_ | refine D_gF' rfl rfl ?_ | refine D_gS rfl (fun _ => ?_) (fun _ => ?_)
  rfl
end Go.Proofs.YtbeaalkfakjoiaaDoor

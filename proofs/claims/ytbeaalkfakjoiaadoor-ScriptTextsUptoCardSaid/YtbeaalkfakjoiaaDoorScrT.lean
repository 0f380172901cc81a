/- rambleref25.Print. -/
import Derived.Test.YtbeaalkfakjoiaaDoorScrR
import Derived.Test.YtbeaalkfakjoiaaDoorScrD
import Derived.Test.YtbeaalkfakjoiaaDoorScrHToScrQ
set_option linter.unusedVariables false
set_option linter.unusedSimpArgs false
namespace Go.Proofs.YtbeaalkfakjoiaaDoor
open Go Go.AM Go.RowKit
def S1 (h : Int × Int × Int) (q : PV) : St := ⟨0, 1, [(0, .var [.int .i64 h.1, .int .i64 h.2.1, .int .i64 h.2.2, q])]⟩
def PrP (h : Int × Int × Int) (q : PV) (r : List UInt8 × Int) : Post := PE fun x e st => st = S1 h q ∧ ((x = .exit 0 ∧ ∃ t, r = (t, 0) ∧ e = ecOf [(4, .str t)]) ∨ (x = .ret ∧ ∃ n, r = ([], n) ∧ e = ecOf [(2, .str []), (3, .int .i64 n)]))
set_option maxHeartbeats 2000000 in
theorem rpr_loop {h : Int × Int × Int} {q : PV} {cs : List Cm} (hq : LV cells q cs) (hcs : ∀ c ∈ cs, CR c ∧ c.t.length ≤ 140737488355328) (hl : cs.length ≤ 1024) : ∀ (rest pre : List Cm) (acc : List UInt8), cs = pre ++ rest → acc.length ≤ 101 + pre.length * 5001 →
    V T (PrP h q (printG rest acc)) [.code (.loop lp_rambleref25_Print_0)] .normal (ecOf [(1, .ptr 0 0), (4, .str acc), (5, .int .i64 pre.length)]) (S1 h q) := by
  intro rest
  induction rest with
  | nil =>
    intro pre acc hc ha
    have hlt : PV.bool (decide ((pre.length : Int) < cs.length)) = PV.bool false := dec_not (by subst hc; simp)
    refine V_unroll ?_
    repeat' first | ((with_reducible show V _ _ _ _ _ _); first | refine V_out [(4, .str acc)] rfl ⟨rfl, trivial⟩ ⟨rfl, .inl ⟨rfl, acc, rfl, rfl⟩⟩ | refine V_O rfl ?_ | refine V_cT rfl rfl ?_ | refine V_cF rfl rfl ?_ | refine V_cEq rfl rfl ?_ | refine V_cNe rfl rfl ?_ | refine V_cB rfl rfl (fun _ => ?_) (fun _ => ?_) | refine V_fA rfl rfl ?_ | refine V_fAN rfl rfl ?_ | refine V_D rfl ?_) | ((with_reducible show VO _ _ _ _ _ _ _); first | refine O_lenL rfl hq ?_ | refine O_is hlt rfl ?_ | refine O_step rfl ?_ | refine O_stepL rfl ?_ | refine O_nil' ?_ | refine O_gT' rfl ?_ | refine O_gU' rfl ?_ | refine O_gF' rfl rfl ?_ | refine O_gEq rfl ?_ | refine O_gNe rfl ?_ | refine O_gS rfl (fun _ => ?_) (fun _ => ?_)) | ((with_reducible show VD _ _ _ _ _ _ _); first | refine D_step rfl ?_ | refine D_nil' ?_ | refine D_gT' rfl ?_ | refine D_gU' rfl ?_ | refine D_gF' rfl rfl ?_ | refine D_gS rfl (fun _ => ?_) (fun _ => ?_))
  | cons c rest ih =>
    intro pre acc hc ha
    have hlt : PV.bool (decide ((pre.length : Int) < cs.length)) = PV.bool true := dec_is (by subst hc; simp; omega)
    have hat : cs[(pre.length : Int).toNat]? = some c := by subst hc; simp
    have hpl : pre.length < 1024 := by subst hc; simp at hl; omega
    have hw : IntKind.i64.wrap ((pre.length : Int) + 1) = ((pre ++ [c]).length : Int) := by rw [wrap_i64]; simp; omega
    obtain ⟨h1, h2⟩ := hcs c (by rw [hc]; simp)
    have hline := run_rLine (k := c.k) h1.1 h1.2.1 h1.2.2 h2
    have hll := lineR_len h1
    have plc : Pl (.agg (k5 c.k c.se c.t c.to c.ke)) := pl_k5 _ _ _ _ _
    unfold twoS at hline
    rw [printG]
    have hi := ih (pre ++ [c]) (acc ++ ((lineR c).1 ++ [10])) (by rw [hc]; simp) (by simp; omega)
    have el : lineR ⟨c.k, c.se, c.t, c.to, c.ke⟩ = lineR c := rfl
    rw [el] at hline
    have c0 : (lineR c).1.length + ([10] : List UInt8).length ≤ 9223372036854775807 := by simp; omega
    have c1 : acc.length + ((lineR c).1 ++ [10]).length ≤ 9223372036854775807 := by simp; omega
    refine V_unroll ?_
    by_cases h0 : (lineR c).2 = 0
    · rw [if_pos h0]
      have e0 : PV.bool (!decide ((lineR c).2 = 0)) = PV.bool false := ndec_is h0
      generalize lineR c = L at *
      repeat' first | ((with_reducible show V _ _ _ _ _ _); first | refine V_re rfl hi ⟨rfl, rfl, some_int hw, trivial⟩ | refine V_O rfl ?_ | refine V_cT rfl rfl ?_ | refine V_cF rfl rfl ?_ | refine V_cEq rfl rfl ?_ | refine V_cNe rfl rfl ?_ | refine V_cB rfl rfl (fun _ => ?_) (fun _ => ?_) | refine V_fA rfl rfl ?_ | refine V_fAN rfl rfl ?_ | refine V_D rfl ?_) | ((with_reducible show VO _ _ _ _ _ _ _); first | refine O_lenL rfl hq ?_ | refine O_is hlt rfl ?_ | refine O_idxL c rfl hq rfl (by omega) hat rfl ?_ | refine O_cA rfl rfl hline ?_ | refine O_is e0 rfl ?_ | refine O_step (cat_q c0 rfl rfl) ?_ | refine O_step (cat_q c1 rfl rfl) ?_ | refine O_step rfl ?_ | refine O_stepL rfl ?_ | refine O_nil' ?_ | refine O_gT' rfl ?_ | refine O_gU' rfl ?_ | refine O_gF' rfl rfl ?_ | refine O_gEq rfl ?_ | refine O_gNe rfl ?_ | refine O_gS rfl (fun _ => ?_) (fun _ => ?_)) | ((with_reducible show VD _ _ _ _ _ _ _); first | refine D_step rfl ?_ | refine D_nil' ?_ | refine D_gT' rfl ?_ | refine D_gU' rfl ?_ | refine D_gF' rfl rfl ?_ | refine D_gS rfl (fun _ => ?_) (fun _ => ?_))
    · rw [if_neg h0]
      have e0 : PV.bool (!decide ((lineR c).2 = 0)) = PV.bool true := ndec_not h0
      generalize lineR c = L at *
      repeat' first | ((with_reducible show V _ _ _ _ _ _); first | refine V_out [(2, .str []), (3, .int .i64 L.2)] rfl ⟨rfl, rfl, trivial⟩ ⟨rfl, .inr ⟨rfl, L.2, rfl, rfl⟩⟩ | refine V_O rfl ?_ | refine V_cT rfl rfl ?_ | refine V_cF rfl rfl ?_ | refine V_cEq rfl rfl ?_ | refine V_cNe rfl rfl ?_ | refine V_cB rfl rfl (fun _ => ?_) (fun _ => ?_) | refine V_fA rfl rfl ?_ | refine V_fAN rfl rfl ?_ | refine V_D rfl ?_) | ((with_reducible show VO _ _ _ _ _ _ _); first | refine O_lenL rfl hq ?_ | refine O_is hlt rfl ?_ | refine O_idxL c rfl hq rfl (by omega) hat rfl ?_ | refine O_cA rfl rfl hline ?_ | refine O_is e0 rfl ?_ | refine O_step rfl ?_ | refine O_stepL rfl ?_ | refine O_nil' ?_ | refine O_gT' rfl ?_ | refine O_gU' rfl ?_ | refine O_gF' rfl rfl ?_ | refine O_gEq rfl ?_ | refine O_gNe rfl ?_ | refine O_gS rfl (fun _ => ?_) (fun _ => ?_)) | ((with_reducible show VD _ _ _ _ _ _ _); first | refine D_step rfl ?_ | refine D_nil' ?_ | refine D_gT' rfl ?_ | refine D_gU' rfl ?_ | refine D_gF' rfl rfl ?_ | refine D_gS rfl (fun _ => ?_) (fun _ => ?_))
set_option maxHeartbeats 2000000 in
theorem run_rPrint {h : Int × Int × Int} {q : PV} {cs : List Cm} (hh : HR h) (hcs : ∀ c ∈ cs, CR c ∧ c.t.length ≤ 140737488355328) (hq : LV cells q cs) (hll : cs.length ≤ 9223372036854775800) : T.R (.call n_rambleref25_Print [scA h q] (.tuple [.str (printR h cs).1, .int .i64 (printR h cs).2])) := by
  have plq := lv_pl hq
  unfold scA
  by_cases hl : 1024 < cs.length
  · have e0 : PV.bool (decide ((1024 : Int) < (cs.length : Int))) = PV.bool true := dec_is (by omega)
    have er : printR h cs = ([], 3) := by unfold printR; rw [if_pos hl]
    rw [er]
    refine call_V rfl rfl ?_
    repeat' first | ((with_reducible show V _ _ _ _ _ _); first | refine V_O rfl ?_ | refine V_cT rfl rfl ?_ | refine V_cF rfl rfl ?_ | refine V_cEq rfl rfl ?_ | refine V_cNe rfl rfl ?_ | refine V_cB rfl rfl (fun _ => ?_) (fun _ => ?_) | refine V_fA rfl rfl ?_ | refine V_fAN rfl rfl ?_ | refine V_D rfl ?_) | ((with_reducible show VO _ _ _ _ _ _ _); first | refine O_lenL rfl hq ?_ | refine O_is e0 rfl ?_ | refine O_step rfl ?_ | refine O_stepL rfl ?_ | refine O_nil' ?_ | refine O_gT' rfl ?_ | refine O_gU' rfl ?_ | refine O_gF' rfl rfl ?_ | refine O_gEq rfl ?_ | refine O_gNe rfl ?_ | refine O_gS rfl (fun _ => ?_) (fun _ => ?_)) | ((with_reducible show VD _ _ _ _ _ _ _); first | refine D_step rfl ?_ | refine D_nil' ?_ | refine D_gT' rfl ?_ | refine D_gU' rfl ?_ | refine D_gF' rfl rfl ?_ | refine D_gS rfl (fun _ => ?_) (fun _ => ?_))
    rfl
  · have e0 : PV.bool (decide ((1024 : Int) < (cs.length : Int))) = PV.bool false := dec_not (by omega)
    have hhd := run_rHead (a := h.1) (b := h.2.1) (c := h.2.2) hh plq
    have hhl := headL_len hh
    have eh : headL (h.1, h.2.1, h.2.2) = headL h := rfl
    rw [eh] at hhd
    have er : printR h cs = printG cs (headL h ++ [10]) := by unfold printR; rw [if_neg hl]
    have hlo := rpr_loop (h := h) hq hcs (by omega) cs [] (headL h ++ [10]) rfl (by simp; omega)
    rw [← er] at hlo
    have c0 : (headL h).length + ([10] : List UInt8).length ≤ 9223372036854775807 := by simp; omega
    clear er
    generalize headL h = L at *
    generalize printR h cs = R at *
    refine call_V rfl rfl ?_
    repeat' first | ((with_reducible show V _ _ _ _ _ _); first | refine V_cutTo rfl hlo ⟨rfl, rfl, rfl, trivial⟩ ?_ | refine V_O rfl ?_ | refine V_cT rfl rfl ?_ | refine V_cF rfl rfl ?_ | refine V_cEq rfl rfl ?_ | refine V_cNe rfl rfl ?_ | refine V_cB rfl rfl (fun _ => ?_) (fun _ => ?_) | refine V_fA rfl rfl ?_ | refine V_fAN rfl rfl ?_ | refine V_D rfl ?_) | ((with_reducible show VO _ _ _ _ _ _ _); first | refine O_lenL rfl hq ?_ | refine O_is e0 rfl ?_ | refine O_cA rfl rfl hhd ?_ | refine O_step (cat_q c0 rfl rfl) ?_ | refine O_step rfl ?_ | refine O_stepL rfl ?_ | refine O_nil' ?_ | refine O_gT' rfl ?_ | refine O_gU' rfl ?_ | refine O_gF' rfl rfl ?_ | refine O_gEq rfl ?_ | refine O_gNe rfl ?_ | refine O_gS rfl (fun _ => ?_) (fun _ => ?_)) | ((with_reducible show VD _ _ _ _ _ _ _); first | refine D_step rfl ?_ | refine D_nil' ?_ | refine D_gT' rfl ?_ | refine D_gU' rfl ?_ | refine D_gF' rfl rfl ?_ | refine D_gS rfl (fun _ => ?_) (fun _ => ?_))
    rintro x e' st' ⟨rfl, ⟨rfl, t, rfl, rfl⟩ | ⟨rfl, n, rfl, rfl⟩⟩
    · repeat' first | ((with_reducible show V _ _ _ _ _ _); first | refine V_O rfl ?_ | refine V_cT rfl rfl ?_ | refine V_cF rfl rfl ?_ | refine V_cEq rfl rfl ?_ | refine V_cNe rfl rfl ?_ | refine V_cB rfl rfl (fun _ => ?_) (fun _ => ?_) | refine V_fA rfl rfl ?_ | refine V_fAN rfl rfl ?_ | refine V_D rfl ?_) | ((with_reducible show VO _ _ _ _ _ _ _); first | refine O_step rfl ?_ | refine O_stepL rfl ?_ | refine O_nil' ?_ | refine O_gT' rfl ?_ | refine O_gU' rfl ?_ | refine O_gF' rfl rfl ?_ | refine O_gEq rfl ?_ | refine O_gNe rfl ?_ | refine O_gS rfl (fun _ => ?_) (fun _ => ?_)) | ((with_reducible show VD _ _ _ _ _ _ _); first | refine D_step rfl ?_ | refine D_nil' ?_ | refine D_gT' rfl ?_ | refine D_gU' rfl ?_ | refine D_gF' rfl rfl ?_ | refine D_gS rfl (fun _ => ?_) (fun _ => ?_))
      rfl
    · repeat' first | ((with_reducible show V _ _ _ _ _ _); first | refine V_O rfl ?_ | refine V_cT rfl rfl ?_ | refine V_cF rfl rfl ?_ | refine V_cEq rfl rfl ?_ | refine V_cNe rfl rfl ?_ | refine V_cB rfl rfl (fun _ => ?_) (fun _ => ?_) | refine V_fA rfl rfl ?_ | refine V_fAN rfl rfl ?_ | refine V_D rfl ?_) | ((with_reducible show VO _ _ _ _ _ _ _); first | refine O_step rfl ?_ | refine O_stepL rfl ?_ | refine O_nil' ?_ | refine O_gT' rfl ?_ | refine O_gU' rfl ?_ | refine O_gF' rfl rfl ?_ | refine O_gEq rfl ?_ | refine O_gNe rfl ?_ | refine O_gS rfl (fun _ => ?_) (fun _ => ?_)) | ((with_reducible show VD _ _ _ _ _ _ _); first | refine D_step rfl ?_ | refine D_nil' ?_ | refine D_gT' rfl ?_ | refine D_gU' rfl ?_ | refine D_gF' rfl rfl ?_ | refine D_gS rfl (fun _ => ?_) (fun _ => ?_))
      rfl
end Go.Proofs.YtbeaalkfakjoiaaDoor

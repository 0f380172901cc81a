/- CodecKeys, over plain values. -/
import Derived.Test.YtfdebgebnkbagaaDoorCodP
import Derived.Test.YtfdebgebnkbagaaDoorCodH
import Derived.Test.YtfdebgebnkbagaaDoorCodA
set_option linter.unusedVariables false
set_option linter.unusedSimpArgs false
namespace Go.Proofs.YtfdebgebnkbagaaDoor
open Go Go.AM Go.RowKit

theorem take_form (b : List UInt8) (hb : b.length ≤ 1048576) : ∃ (k n : Int) (s : List UInt8) (c d : Int), trPV (takeR b) = .tuple [.agg [.int .i64 k, .int .i64 n, .str s, .nilSl], .int .i64 c, .int .i64 d] ∧ VC (.mk k n s []) [.int .i64 k, .int .i64 n, .str s, .nilSl] := by
  cases h : takeR b with
  | err e => exact ⟨0, 0, [], 0, e, rfl, .nil _ _ _ (by simp [I64]) (by simp [I64]) (by simp)⟩
  | ok v n =>
    obtain ⟨_, _, k, i, s, rfl, hk, hi, hs⟩ := take_ok h hb
    exact ⟨k, i, s, n, 0, rfl, .nil _ _ _ hk hi (by omega)⟩
theorem vals_form {q : PV} {b : List UInt8} (hq : BV q b) (hb : b.length ≤ 1048576) : ∃ l x y e, LC l x ∧ LC l y ∧ T.R (.call n_codec_Values [q] (.tuple [x, .int .i64 e])) ∧ T.R (.call n_rambleref03_Values [q] (.tuple [y, .int .i64 e])) := by
  rcases run_Values hq hb with ⟨l, x, h1, h2, h3⟩ | ⟨e, h1, h3⟩
  · rcases run_Values3 hq hb with ⟨l', y, g1, g2, g3⟩ | ⟨e', g1, _⟩
    · rw [h1] at g1
      injection g1 with g1
      subst g1
      exact ⟨l, x, y, 0, h2, g2, h3, g3⟩
    · rw [h1] at g1; cases g1
  · rcases run_Values3 hq hb with ⟨l', y, g1, g2, g3⟩ | ⟨e', g1, g3⟩
    · rw [h1] at g1; cases g1
    · rw [h1] at g1
      injection g1 with g1
      subst g1
      exact ⟨[], .nilSl, .nilSl, e, .inl ⟨rfl, rfl⟩, .inl ⟨rfl, rfl⟩, h3, g3⟩
theorem after_form {q : PV} {b : List UInt8} (hq : BV q b) (hb : b.length ≤ 1048576) : ∃ s x y t, BV x s ∧ BV y s ∧ T.R (.call n_codec_After [q] (.tuple [x, .bool t])) ∧ T.R (.call n_rambleref03_After [q] (.tuple [y, .bool t])) := by
  rcases run_After hq (by omega) with ⟨h1, h2⟩ | ⟨a, h1, h2⟩
  · rcases run_After3 hq (by omega) with ⟨g1, g2⟩ | ⟨a', g1, _⟩
    · exact ⟨[], _, _, false, .nil, .nil, h2, g2⟩
    · rw [h1] at g1; cases g1
  · rcases run_After3 hq (by omega) with ⟨g1, _⟩ | ⟨a', g1, g2⟩
    · rw [h1] at g1; cases g1
    · rw [h1] at g1
      injection g1 with g1
      subst g1
      exact ⟨a, _, _, true, .sl _ _, .sl _ _, h2, g2⟩
set_option maxHeartbeats 8000000 in
theorem law_CodecKeys {p q : PV} {l : List Val} {b : List UInt8} (hp : LC l p) (hq : BV q b) (hl : l.length ≤ 1048576) (hb : b.length ≤ 1048576) : T.R (.call n_ramblelaw03_CodecKeys [p, q] (.bool true)) := by
  have plp := hp.pl
  have plq := hq.pl
  have hbeg := run_begun
  obtain ⟨P, hP, hk1⟩ := run_Key l p hp hl
  obtain ⟨Q, hQ, hk3⟩ := run_Key3 l p hp hl
  have he1 := run_Equal hP hQ
  rw [decide_eq_true rfl] at he1
  have plP := hP.pl
  have plQ := hQ.pl
  have ht1 := run_Take hq hb
  have ht3 := run_Take3 hq hb
  obtain ⟨tk, tn, ts, tc, td, hf, hvc⟩ := take_form b hb
  rw [hf] at ht1 ht3
  have hsame := run_Same hvc hvc
  rw [decide_eq_true (cmpV_self _)] at hsame
  obtain ⟨vl, X, Y, ve, hX, hY, hv1, hv3⟩ := vals_form hq hb
  have hsa := run_SameAll vl vl X Y hX hY
  rw [decide_eq_true (cmpVs_zero.2 rfl)] at hsa
  have plX := hX.pl
  have plY := hY.pl
  obtain ⟨sa, A1, A3, ta, hA1, hA3, ha1, ha3⟩ := after_form hq hb
  have he2 := run_Equal hA1 hA3
  rw [decide_eq_true rfl] at he2
  have plA1 := hA1.pl
  have plA3 := hA3.pl
  generalize keyE l = ke at hk1 hk3
  clear hf
  refine call_V rfl rfl ?_
  repeat' first | refine O_callP rfl rfl (viewL_pl (by (repeat' (first | exact Pl.int _ _ | exact Pl.bool _ | exact Pl.str _ | exact Pl.nilSl | exact pl_nil | refine pl_cons ?_ ?_ | refine Pl.tuple _ ?_ | refine Pl.agg _ ?_ | refine Pl.func _ _ ?_ | assumption | refine Pl.iptr _ _ ?_ | exact pll_nil | refine pll_cons ?_ ?_ | refine Pl.sl _ _ ?_)); first | done | fail)) hk1 ?_ | refine O_callP rfl rfl (viewL_pl (by (repeat' (first | exact Pl.int _ _ | exact Pl.bool _ | exact Pl.str _ | exact Pl.nilSl | exact pl_nil | refine pl_cons ?_ ?_ | refine Pl.tuple _ ?_ | refine Pl.agg _ ?_ | refine Pl.func _ _ ?_ | assumption | refine Pl.iptr _ _ ?_ | exact pll_nil | refine pll_cons ?_ ?_ | refine Pl.sl _ _ ?_)); first | done | fail)) hk3 ?_ | refine O_callP rfl rfl (viewL_pl (by (repeat' (first | exact Pl.int _ _ | exact Pl.bool _ | exact Pl.str _ | exact Pl.nilSl | exact pl_nil | refine pl_cons ?_ ?_ | refine Pl.tuple _ ?_ | refine Pl.agg _ ?_ | refine Pl.func _ _ ?_ | assumption | refine Pl.iptr _ _ ?_ | exact pll_nil | refine pll_cons ?_ ?_ | refine Pl.sl _ _ ?_)); first | done | fail)) hbeg ?_ | refine O_callP rfl rfl (viewL_pl (by (repeat' (first | exact Pl.int _ _ | exact Pl.bool _ | exact Pl.str _ | exact Pl.nilSl | exact pl_nil | refine pl_cons ?_ ?_ | refine Pl.tuple _ ?_ | refine Pl.agg _ ?_ | refine Pl.func _ _ ?_ | assumption | refine Pl.iptr _ _ ?_ | exact pll_nil | refine pll_cons ?_ ?_ | refine Pl.sl _ _ ?_)); first | done | fail)) he1 ?_ | refine O_callP rfl rfl (viewL_pl (by (repeat' (first | exact Pl.int _ _ | exact Pl.bool _ | exact Pl.str _ | exact Pl.nilSl | exact pl_nil | refine pl_cons ?_ ?_ | refine Pl.tuple _ ?_ | refine Pl.agg _ ?_ | refine Pl.func _ _ ?_ | assumption | refine Pl.iptr _ _ ?_ | exact pll_nil | refine pll_cons ?_ ?_ | refine Pl.sl _ _ ?_)); first | done | fail)) ht1 ?_ | refine O_callP rfl rfl (viewL_pl (by (repeat' (first | exact Pl.int _ _ | exact Pl.bool _ | exact Pl.str _ | exact Pl.nilSl | exact pl_nil | refine pl_cons ?_ ?_ | refine Pl.tuple _ ?_ | refine Pl.agg _ ?_ | refine Pl.func _ _ ?_ | assumption | refine Pl.iptr _ _ ?_ | exact pll_nil | refine pll_cons ?_ ?_ | refine Pl.sl _ _ ?_)); first | done | fail)) ht3 ?_ | refine O_callP rfl rfl (viewL_pl (by (repeat' (first | exact Pl.int _ _ | exact Pl.bool _ | exact Pl.str _ | exact Pl.nilSl | exact pl_nil | refine pl_cons ?_ ?_ | refine Pl.tuple _ ?_ | refine Pl.agg _ ?_ | refine Pl.func _ _ ?_ | assumption | refine Pl.iptr _ _ ?_ | exact pll_nil | refine pll_cons ?_ ?_ | refine Pl.sl _ _ ?_)); first | done | fail)) hsame ?_ | refine O_callP rfl rfl (viewL_pl (by (repeat' (first | exact Pl.int _ _ | exact Pl.bool _ | exact Pl.str _ | exact Pl.nilSl | exact pl_nil | refine pl_cons ?_ ?_ | refine Pl.tuple _ ?_ | refine Pl.agg _ ?_ | refine Pl.func _ _ ?_ | assumption | refine Pl.iptr _ _ ?_ | exact pll_nil | refine pll_cons ?_ ?_ | refine Pl.sl _ _ ?_)); first | done | fail)) hv1 ?_ | refine O_callP rfl rfl (viewL_pl (by (repeat' (first | exact Pl.int _ _ | exact Pl.bool _ | exact Pl.str _ | exact Pl.nilSl | exact pl_nil | refine pl_cons ?_ ?_ | refine Pl.tuple _ ?_ | refine Pl.agg _ ?_ | refine Pl.func _ _ ?_ | assumption | refine Pl.iptr _ _ ?_ | exact pll_nil | refine pll_cons ?_ ?_ | refine Pl.sl _ _ ?_)); first | done | fail)) hv3 ?_ | refine O_callP rfl rfl (viewL_pl (by (repeat' (first | exact Pl.int _ _ | exact Pl.bool _ | exact Pl.str _ | exact Pl.nilSl | exact pl_nil | refine pl_cons ?_ ?_ | refine Pl.tuple _ ?_ | refine Pl.agg _ ?_ | refine Pl.func _ _ ?_ | assumption | refine Pl.iptr _ _ ?_ | exact pll_nil | refine pll_cons ?_ ?_ | refine Pl.sl _ _ ?_)); first | done | fail)) hsa ?_ | refine O_callP rfl rfl (viewL_pl (by (repeat' (first | exact Pl.int _ _ | exact Pl.bool _ | exact Pl.str _ | exact Pl.nilSl | exact pl_nil | refine pl_cons ?_ ?_ | refine Pl.tuple _ ?_ | refine Pl.agg _ ?_ | refine Pl.func _ _ ?_ | assumption | refine Pl.iptr _ _ ?_ | exact pll_nil | refine pll_cons ?_ ?_ | refine Pl.sl _ _ ?_)); first | done | fail)) ha1 ?_ | refine O_callP rfl rfl (viewL_pl (by (repeat' (first | exact Pl.int _ _ | exact Pl.bool _ | exact Pl.str _ | exact Pl.nilSl | exact pl_nil | refine pl_cons ?_ ?_ | refine Pl.tuple _ ?_ | refine Pl.agg _ ?_ | refine Pl.func _ _ ?_ | assumption | refine Pl.iptr _ _ ?_ | exact pll_nil | refine pll_cons ?_ ?_ | refine Pl.sl _ _ ?_)); first | done | fail)) ha3 ?_ | refine O_callP rfl rfl (viewL_pl (by (repeat' (first | exact Pl.int _ _ | exact Pl.bool _ | exact Pl.str _ | exact Pl.nilSl | exact pl_nil | refine pl_cons ?_ ?_ | refine Pl.tuple _ ?_ | refine Pl.agg _ ?_ | refine Pl.func _ _ ?_ | assumption | refine Pl.iptr _ _ ?_ | exact pll_nil | refine pll_cons ?_ ?_ | refine Pl.sl _ _ ?_)); first | done | fail)) he2 ?_ | refine O_gNe rfl ?_ | refine O_step rfl ?_ | refine O_stepL rfl ?_ | refine V_O rfl ?_ | refine O_step rfl ?_ | refine O_nil' ?_ | refine V_cT rfl rfl ?_ | refine V_cF rfl rfl ?_ | refine V_cEq rfl rfl ?_ | refine V_cNe rfl rfl ?_ | refine V_cB rfl rfl (fun _ => ?_) (fun _ => ?_) | refine O_gT' rfl ?_ | refine O_gU' rfl ?_ | refine O_gF' rfl rfl ?_ | refine O_gEq rfl ?_ | refine O_gNe rfl ?_ | refine O_gS rfl (fun _ => ?_) (fun _ => ?_) | refine V_fin rfl rfl (Pl.view (by (repeat' (first | exact Pl.int _ _ | exact Pl.bool _ | exact Pl.str _ | exact Pl.nilSl | exact pl_nil | refine pl_cons ?_ ?_ | refine Pl.tuple _ ?_ | refine Pl.agg _ ?_ | refine Pl.func _ _ ?_ | assumption | refine Pl.iptr _ _ ?_ | exact pll_nil | refine pll_cons ?_ ?_ | refine Pl.sl _ _ ?_)); first | done | fail)) ?_ | refine V_finN rfl rfl (Pl.view (by (repeat' (first | exact Pl.int _ _ | exact Pl.bool _ | exact Pl.str _ | exact Pl.nilSl | exact pl_nil | refine pl_cons ?_ ?_ | refine Pl.tuple _ ?_ | refine Pl.agg _ ?_ | refine Pl.func _ _ ?_ | assumption | refine Pl.iptr _ _ ?_ | exact pll_nil | refine pll_cons ?_ ?_ | refine Pl.sl _ _ ?_)); first | done | fail)) ?_ | refine V_D rfl ?_ | refine D_step rfl ?_ | refine D_nil' ?_ | refine D_gT' rfl ?_ | refine D_gU' rfl ?_ | refine D_gF' rfl rfl ?_ | refine D_gS rfl (fun _ => ?_) (fun _ => ?_)
  all_goals first | rfl | (simp; done) | (exfalso; simp_all; done)
end Go.Proofs.YtfdebgebnkbagaaDoor


/- The law ScriptLines over plain values. -/
import Derived.Test.YtbeaalkfakjoiaaDoorScrG
import Derived.Test.YtbeaalkfakjoiaaDoorScrH
set_option linter.unusedVariables false
set_option linter.unusedSimpArgs false
namespace Go.Proofs.YtbeaalkfakjoiaaDoor
open Go Go.AM Go.RowKit
set_option maxHeartbeats 2000000 in
theorem law_ScriptLines {k se to ke n : Int} {t s : List UInt8} (h1 : R64 se) (h2 : R64 to) (h3 : R64 ke) (hn : R64 n) (ht : t.length ≤ 140737488355328) (hs : s.length ≤ 140737488355328) : T.R (.call n_ramblelaw25_ScriptLines [.agg (k5 k se t to ke), .str s, .int .i64 n] (.bool true)) := by
  have hbg := run_begun
  have c1 := run_Line (k := k) h1 h2 h3 ht
  have c2 := run_rLine (k := k) h1 h2 h3 ht
  obtain ⟨o, p1, q1⟩ := run_ParseLine hs
  obtain ⟨o', p2, q2⟩ := run_rParseLine hs
  have ho := q2.inj q1
  subst ho
  obtain ⟨p, b1, b2⟩ := run_Keep hn
  obtain ⟨q, d1, d2⟩ := run_rKeep hn
  have he := run_EqualB b2 d2 (by have := bitsF_len 63 n.toNat; unfold bitsI; omega)
  have plk := pl_k5 k se t to ke
  have plf : ∀ a ∈ bitsI n, ∀ x ∈ bc a, Pl x := fun a _ x hx => by
    have : x = .bool a := by simpa [bc] using hx
    rw [this]; exact .bool _
  have plp : Pl p := b2.pl plf
  have plq : Pl q := d2.pl plf
  generalize lineR ⟨k, se, t, to, ke⟩ = L at *
  unfold twoS at c1 c2
  have e1 : PV.bool (decide (L.1 = L.1)) = PV.bool true := dec_is rfl
  have e2 : PV.bool (decide (L.2 = L.2)) = PV.bool true := dec_is rfl
  cases o' with
  | none =>
    unfold twoC at p1 p2
    have e3 : PV.bool (eqC ⟨0, 0, [], 0, 0⟩ ⟨0, 0, [], 0, 0⟩) = PV.bool true := by rw [eqC_iff.2 rfl]
    have plz : Pl (.agg z5) := pl_k5 0 0 [] 0 0
    refine call_V rfl rfl ?_
    repeat' first | refine O_cA rfl rfl hbg ?_ | refine O_cA rfl rfl c1 ?_ | refine O_cA rfl rfl c2 ?_ | refine O_cA rfl rfl p1 ?_ | refine O_cA rfl rfl p2 ?_ | refine O_cA rfl rfl b1 ?_ | refine O_cA rfl rfl d1 ?_ | refine O_cA rfl rfl he ?_ | refine O_is e1 rfl ?_ | refine O_is e2 rfl ?_ | refine O_is e3 rfl ?_ | refine O_step rfl ?_ | refine O_stepL rfl ?_ | refine V_O rfl ?_ | refine O_step rfl ?_ | refine O_nil' ?_ | refine V_cT rfl rfl ?_ | refine V_cF rfl rfl ?_ | refine V_cEq rfl rfl ?_ | refine V_cNe rfl rfl ?_ | refine V_cB rfl rfl (fun _ => ?_) (fun _ => ?_) | refine O_gT' rfl ?_ | refine O_gU' rfl ?_ | refine O_gF' rfl rfl ?_ | refine O_gEq rfl ?_ | refine O_gNe rfl ?_ | refine O_gS rfl (fun _ => ?_) (fun _ => ?_) | refine V_fA rfl rfl ?_ | refine V_fAN rfl rfl ?_ | refine V_D rfl ?_ | refine D_step rfl ?_ | refine D_nil' ?_ | refine D_gT' rfl ?_ | refine D_gU' rfl ?_ | refine D_gF' rfl rfl ?_ | refine D_gS rfl (fun _ => ?_) (fun _ => ?_)
    rfl
  | some c =>
    unfold twoC at p1 p2
    have e3 : PV.bool (eqC c c) = PV.bool true := by rw [eqC_iff.2 rfl]
    have plc := pl_cells c
    refine call_V rfl rfl ?_
    repeat' first | refine O_cA rfl rfl hbg ?_ | refine O_cA rfl rfl c1 ?_ | refine O_cA rfl rfl c2 ?_ | refine O_cA rfl rfl p1 ?_ | refine O_cA rfl rfl p2 ?_ | refine O_cA rfl rfl b1 ?_ | refine O_cA rfl rfl d1 ?_ | refine O_cA rfl rfl he ?_ | refine O_is e1 rfl ?_ | refine O_is e2 rfl ?_ | refine O_is e3 rfl ?_ | refine O_step rfl ?_ | refine O_stepL rfl ?_ | refine V_O rfl ?_ | refine O_step rfl ?_ | refine O_nil' ?_ | refine V_cT rfl rfl ?_ | refine V_cF rfl rfl ?_ | refine V_cEq rfl rfl ?_ | refine V_cNe rfl rfl ?_ | refine V_cB rfl rfl (fun _ => ?_) (fun _ => ?_) | refine O_gT' rfl ?_ | refine O_gU' rfl ?_ | refine O_gF' rfl rfl ?_ | refine O_gEq rfl ?_ | refine O_gNe rfl ?_ | refine O_gS rfl (fun _ => ?_) (fun _ => ?_) | refine V_fA rfl rfl ?_ | refine V_fAN rfl rfl ?_ | refine V_D rfl ?_ | refine D_step rfl ?_ | refine D_nil' ?_ | refine D_gT' rfl ?_ | refine D_gU' rfl ?_ | refine D_gF' rfl rfl ?_ | refine D_gS rfl (fun _ => ?_) (fun _ => ?_)
    rfl
end Go.Proofs.YtbeaalkfakjoiaaDoor

/- rambleref25.ParseLine. -/
import Derived.Test.YtbeaalkfakjoiaaDoorScrF
import Derived.Test.YtbeaalkfakjoiaaDoorScrD
set_option linter.unusedVariables false
set_option linter.unusedSimpArgs false
namespace Go.Proofs.YtbeaalkfakjoiaaDoor
open Go Go.AM Go.RowKit
theorem says_none {s : List UInt8} (h : (parT (cutP (cutP s).2).1).2 = 0 → ∀ k, 1 ≤ k → k ≤ 6 → wordL k = (cutP s).1 → ¬ acc (cand k (parT (cutP (cutP s).2).1).1 (cutP (cutP s).2).2) s) : Says s none := by
  by_cases h0 : (parT (cutP (cutP s).2).1).2 = 0
  · exact .inr ⟨h0, .inl ⟨rfl, h h0⟩⟩
  · exact .inl ⟨h0, rfl⟩
theorem cutT_is (s : List UInt8) : cutT 32 s = .tuple [.str (cutP s).1, .str (cutP s).2, .bool (cutB 32 s).isSome] := by
  unfold cutT cutP
  cases cutB 32 s with
  | none => rfl
  | some p => rfl
set_option maxHeartbeats 8000000 in
theorem run_rParseLine {s : List UInt8} (hs : s.length ≤ 140737488355328) : ∃ o, T.R (.call n_rambleref25_ParseLine [.str s] (twoC o)) ∧ Says s o := by
  have hc1 := run_rCut (s := s) (by omega)
  rw [cutT_is] at hc1
  have hl1 := cutP_len s
  have hc2 := run_rCut (s := (cutP s).2) (by omega)
  rw [cutT_is] at hc2
  have hl2 := cutP_len (cutP s).2
  have hn1 := run_number (s := (cutP (cutP s).2).1) (by omega)
  have hn2 := run_number (s := (cutP (cutP s).2).2) (by omega)
  have hpr := parT_r (cutP (cutP s).2).1
  have hpr2 := parT_r (cutP (cutP s).2).2
  have hm : (cutP (cutP s).2).2.length ≤ 140737488355328 := by omega
  have hmore : ∀ k n, acc (cand k n (cutP (cutP s).2).2) s → _ := fun k n => acc_more (s := s) (k := k) (n := n)
  have hlp := rpl_loop s (cutP s).1 (cutP s).2 (cutB 32 s).isSome 6 1 0 rfl (by omega)
  have hks := kfin_spec (cutP s).1 6 1 0 rfl (by omega) (.inl ⟨rfl, fun j j1 j2 => by omega⟩)
  suffices key : ∃ r, T.R (.call n_rambleref25_ParseLine [.str s] r) ∧ ∃ o, r = twoC o ∧ Says s o by
    obtain ⟨r, hr, o, rfl, ho⟩ := key
    exact ⟨o, hr, ho⟩
  have hun : ∀ {o}, Says s o ↔ Says s o := Iff.rfl
  have hsn := says_none (s := s)
  unfold Says at *
  generalize hK : kfin (cutP s).1 6 1 0 = K at *
  generalize hq : cutP (cutP s).2 = q at *
  obtain ⟨first, more⟩ := q
  simp only at *
  generalize parT first = pm at *
  obtain ⟨n, er⟩ := pm
  have hcand6 : cand 6 n more = ⟨6, 0, [], n, (parT more).1⟩ := rfl
  generalize parT more = pm2 at *
  obtain ⟨n2, er2⟩ := pm2
  simp only at *
  generalize hw : (cutP s).1 = w at *
  generalize hr : (cutP s).2 = rest at *
  generalize hI : (cutB 32 s).isSome = is at *
  generalize hH : (cutB 32 rest).isSome = has at *
  have hone : ∀ k, 1 ≤ k → k ≤ 6 → wordL k = w → k = K := fun k k1 k2 k3 => by
    rcases hks with ⟨_, h⟩ | ⟨h1, h2, h3⟩
    · exact absurd k3 (h k k1 k2)
    · exact wordL_inj ⟨k1, k2⟩ ⟨h1, h2⟩ (k3.trans h3.symm)
  by_cases g0 : K = 0
  · refine call_VQ rfl rfl ?_
    repeat' first | refine O_cA rfl rfl hc1 ?_ | refine V_cutTo rfl hlp ⟨rfl, rfl, rfl, rfl, rfl, rfl, rfl, trivial⟩ ?_ | refine O_step rfl ?_ | refine O_stepL rfl ?_ | refine V_O rfl ?_ | refine O_step rfl ?_ | refine O_nil' ?_ | refine V_cT rfl rfl ?_ | refine V_cF rfl rfl ?_ | refine V_cEq rfl rfl ?_ | refine V_cNe rfl rfl ?_ | refine V_cB rfl rfl (fun _ => ?_) (fun _ => ?_) | refine O_gT' rfl ?_ | refine O_gU' rfl ?_ | refine O_gF' rfl rfl ?_ | refine O_gEq rfl ?_ | refine O_gNe rfl ?_ | refine O_gS rfl (fun _ => ?_) (fun _ => ?_) | refine V_fA rfl rfl ?_ | refine V_fAN rfl rfl ?_ | refine V_D rfl ?_ | refine D_step rfl ?_ | refine D_nil' ?_ | refine D_gT' rfl ?_ | refine D_gU' rfl ?_ | refine D_gF' rfl rfl ?_ | refine D_gS rfl (fun _ => ?_) (fun _ => ?_)
    rintro x e' st' ⟨rfl, rfl, rfl⟩
    repeat' first | refine O_is (dec_is g0) rfl ?_ | refine O_step rfl ?_ | refine O_stepL rfl ?_ | refine V_O rfl ?_ | refine O_step rfl ?_ | refine O_nil' ?_ | refine V_cT rfl rfl ?_ | refine V_cF rfl rfl ?_ | refine V_cEq rfl rfl ?_ | refine V_cNe rfl rfl ?_ | refine V_cB rfl rfl (fun _ => ?_) (fun _ => ?_) | refine O_gT' rfl ?_ | refine O_gU' rfl ?_ | refine O_gF' rfl rfl ?_ | refine O_gEq rfl ?_ | refine O_gNe rfl ?_ | refine O_gS rfl (fun _ => ?_) (fun _ => ?_) | refine V_fA rfl rfl ?_ | refine V_fAN rfl rfl ?_ | refine V_D rfl ?_ | refine D_step rfl ?_ | refine D_nil' ?_ | refine D_gT' rfl ?_ | refine D_gU' rfl ?_ | refine D_gF' rfl rfl ?_ | refine D_gS rfl (fun _ => ?_) (fun _ => ?_)
    exact ⟨none, rfl, by have hz := hsn (fun _ k k1 k2 k3 => by have := hone k k1 k2 k3; omega); simpa using hz⟩
  · obtain ⟨k1, k2, k3⟩ : 1 ≤ K ∧ K ≤ 6 ∧ wordL K = w := by
      rcases hks with ⟨h, _⟩ | h
      · exact absurd h g0
      · exact h
    cases is with
    | false =>
      refine call_VQ rfl rfl ?_
      repeat' first | refine O_cA rfl rfl hc1 ?_ | refine V_cutTo rfl hlp ⟨rfl, rfl, rfl, rfl, rfl, rfl, rfl, trivial⟩ ?_ | refine O_step rfl ?_ | refine O_stepL rfl ?_ | refine V_O rfl ?_ | refine O_step rfl ?_ | refine O_nil' ?_ | refine V_cT rfl rfl ?_ | refine V_cF rfl rfl ?_ | refine V_cEq rfl rfl ?_ | refine V_cNe rfl rfl ?_ | refine V_cB rfl rfl (fun _ => ?_) (fun _ => ?_) | refine O_gT' rfl ?_ | refine O_gU' rfl ?_ | refine O_gF' rfl rfl ?_ | refine O_gEq rfl ?_ | refine O_gNe rfl ?_ | refine O_gS rfl (fun _ => ?_) (fun _ => ?_) | refine V_fA rfl rfl ?_ | refine V_fAN rfl rfl ?_ | refine V_D rfl ?_ | refine D_step rfl ?_ | refine D_nil' ?_ | refine D_gT' rfl ?_ | refine D_gU' rfl ?_ | refine D_gF' rfl rfl ?_ | refine D_gS rfl (fun _ => ?_) (fun _ => ?_)
      rintro x e' st' ⟨rfl, rfl, rfl⟩
      repeat' first | refine O_is (dec_not g0) rfl ?_ | refine O_step rfl ?_ | refine O_stepL rfl ?_ | refine V_O rfl ?_ | refine O_step rfl ?_ | refine O_nil' ?_ | refine V_cT rfl rfl ?_ | refine V_cF rfl rfl ?_ | refine V_cEq rfl rfl ?_ | refine V_cNe rfl rfl ?_ | refine V_cB rfl rfl (fun _ => ?_) (fun _ => ?_) | refine O_gT' rfl ?_ | refine O_gU' rfl ?_ | refine O_gF' rfl rfl ?_ | refine O_gEq rfl ?_ | refine O_gNe rfl ?_ | refine O_gS rfl (fun _ => ?_) (fun _ => ?_) | refine V_fA rfl rfl ?_ | refine V_fAN rfl rfl ?_ | refine V_D rfl ?_ | refine D_step rfl ?_ | refine D_nil' ?_ | refine D_gT' rfl ?_ | refine D_gU' rfl ?_ | refine D_gF' rfl rfl ?_ | refine D_gS rfl (fun _ => ?_) (fun _ => ?_)
      exact ⟨none, rfl, by have hz := hsn (fun _ k k1 k2 k3 h => by have := (hmore k n h).1; cases this); simpa using hz⟩
    | true =>
      by_cases g1 : er = 0
      · rw [decide_eq_true g1] at hn1
        have ha := run_asks K
        by_cases g6 : K = 6
        · have hA : isAsk K = false := by rw [g6]; rfl
          rw [hA] at ha
          cases has with
          | false =>
            refine call_VQ rfl rfl ?_
            repeat' first | refine O_cA rfl rfl hc1 ?_ | refine V_cutTo rfl hlp ⟨rfl, rfl, rfl, rfl, rfl, rfl, rfl, trivial⟩ ?_ | refine O_step rfl ?_ | refine O_stepL rfl ?_ | refine V_O rfl ?_ | refine O_step rfl ?_ | refine O_nil' ?_ | refine V_cT rfl rfl ?_ | refine V_cF rfl rfl ?_ | refine V_cEq rfl rfl ?_ | refine V_cNe rfl rfl ?_ | refine V_cB rfl rfl (fun _ => ?_) (fun _ => ?_) | refine O_gT' rfl ?_ | refine O_gU' rfl ?_ | refine O_gF' rfl rfl ?_ | refine O_gEq rfl ?_ | refine O_gNe rfl ?_ | refine O_gS rfl (fun _ => ?_) (fun _ => ?_) | refine V_fA rfl rfl ?_ | refine V_fAN rfl rfl ?_ | refine V_D rfl ?_ | refine D_step rfl ?_ | refine D_nil' ?_ | refine D_gT' rfl ?_ | refine D_gU' rfl ?_ | refine D_gF' rfl rfl ?_ | refine D_gS rfl (fun _ => ?_) (fun _ => ?_)
            rintro x e' st' ⟨rfl, rfl, rfl⟩
            repeat' first | refine O_is (dec_not g0) rfl ?_ | refine O_cA rfl rfl hc2 ?_ | refine O_cA rfl rfl hn1 ?_ | refine O_cA rfl rfl ha ?_ | refine O_is (dec_is g6) rfl ?_ | refine O_step rfl ?_ | refine O_stepL rfl ?_ | refine V_O rfl ?_ | refine O_step rfl ?_ | refine O_nil' ?_ | refine V_cT rfl rfl ?_ | refine V_cF rfl rfl ?_ | refine V_cEq rfl rfl ?_ | refine V_cNe rfl rfl ?_ | refine V_cB rfl rfl (fun _ => ?_) (fun _ => ?_) | refine O_gT' rfl ?_ | refine O_gU' rfl ?_ | refine O_gF' rfl rfl ?_ | refine O_gEq rfl ?_ | refine O_gNe rfl ?_ | refine O_gS rfl (fun _ => ?_) (fun _ => ?_) | refine V_fA rfl rfl ?_ | refine V_fAN rfl rfl ?_ | refine V_D rfl ?_ | refine D_step rfl ?_ | refine D_nil' ?_ | refine D_gT' rfl ?_ | refine D_gU' rfl ?_ | refine D_gF' rfl rfl ?_ | refine D_gS rfl (fun _ => ?_) (fun _ => ?_)
            exact ⟨none, rfl, by have hz := hsn (fun _ k k1 k2 k3 h => by have h4 := hone k k1 k2 k3; have := (hmore k n h).2.1; rw [h4, hA, decide_eq_true g6] at this; cases this); simpa using hz⟩
          | true =>
            subst g6
            by_cases g2 : er2 = 0
            · rw [decide_eq_true g2] at hn2
              have hln := run_rLine (k := 6) (se := 0) (t := []) (to := n) (ke := n2) (by decide) hpr hpr2 (by simp)
              have fin : (lineR ⟨6, 0, [], n, n2⟩).2 = 0 → (lineR ⟨6, 0, [], n, n2⟩).1 = s → acc (cand 6 n more) s := fun a b => by rw [hcand6]; exact ⟨a, b⟩
              have nin : ¬ ((lineR ⟨6, 0, [], n, n2⟩).2 = 0 ∧ (lineR ⟨6, 0, [], n, n2⟩).1 = s) → ∀ k, 1 ≤ k → k ≤ 6 → wordL k = w → ¬ acc (cand k n more) s := fun a k k1 k2 k3 h => by
                have h4 := hone k k1 k2 k3
                rw [h4, hcand6] at h
                exact a h
              generalize lineR ⟨6, 0, [], n, n2⟩ = L at *
              unfold twoS at hln
              have plk := pl_k5 6 0 [] n n2
              by_cases g3 : L.2 = 0
              · by_cases g4 : L.1 = s
                · refine call_VQ rfl rfl ?_
                  repeat' first | refine O_cA rfl rfl hc1 ?_ | refine V_cutTo rfl hlp ⟨rfl, rfl, rfl, rfl, rfl, rfl, rfl, trivial⟩ ?_ | refine O_step rfl ?_ | refine O_stepL rfl ?_ | refine V_O rfl ?_ | refine O_step rfl ?_ | refine O_nil' ?_ | refine V_cT rfl rfl ?_ | refine V_cF rfl rfl ?_ | refine V_cEq rfl rfl ?_ | refine V_cNe rfl rfl ?_ | refine V_cB rfl rfl (fun _ => ?_) (fun _ => ?_) | refine O_gT' rfl ?_ | refine O_gU' rfl ?_ | refine O_gF' rfl rfl ?_ | refine O_gEq rfl ?_ | refine O_gNe rfl ?_ | refine O_gS rfl (fun _ => ?_) (fun _ => ?_) | refine V_fA rfl rfl ?_ | refine V_fAN rfl rfl ?_ | refine V_D rfl ?_ | refine D_step rfl ?_ | refine D_nil' ?_ | refine D_gT' rfl ?_ | refine D_gU' rfl ?_ | refine D_gF' rfl rfl ?_ | refine D_gS rfl (fun _ => ?_) (fun _ => ?_)
                  rintro x e' st' ⟨rfl, rfl, rfl⟩
                  repeat' first | refine O_is (dec_not g0) rfl ?_ | refine O_cA rfl rfl hc2 ?_ | refine O_cA rfl rfl hn1 ?_ | refine O_cA rfl rfl ha ?_ | refine O_cA rfl rfl hn2 ?_ | refine O_cA rfl rfl hln ?_ | refine O_is (ndec_is g3) rfl ?_ | refine O_is (ndec_is g4) rfl ?_ | refine O_step rfl ?_ | refine O_stepL rfl ?_ | refine V_O rfl ?_ | refine O_step rfl ?_ | refine O_nil' ?_ | refine V_cT rfl rfl ?_ | refine V_cF rfl rfl ?_ | refine V_cEq rfl rfl ?_ | refine V_cNe rfl rfl ?_ | refine V_cB rfl rfl (fun _ => ?_) (fun _ => ?_) | refine O_gT' rfl ?_ | refine O_gU' rfl ?_ | refine O_gF' rfl rfl ?_ | refine O_gEq rfl ?_ | refine O_gNe rfl ?_ | refine O_gS rfl (fun _ => ?_) (fun _ => ?_) | refine V_fA rfl rfl ?_ | refine V_fAN rfl rfl ?_ | refine V_D rfl ?_ | refine D_step rfl ?_ | refine D_nil' ?_ | refine D_gT' rfl ?_ | refine D_gU' rfl ?_ | refine D_gF' rfl rfl ?_ | refine D_gS rfl (fun _ => ?_) (fun _ => ?_)
                  exact ⟨some (cand 6 n more), by rw [hcand6]; rfl, .inr ⟨g1, .inr ⟨6, k1, k2, k3, fin g3 g4, rfl⟩⟩⟩
                · refine call_VQ rfl rfl ?_
                  repeat' first | refine O_cA rfl rfl hc1 ?_ | refine V_cutTo rfl hlp ⟨rfl, rfl, rfl, rfl, rfl, rfl, rfl, trivial⟩ ?_ | refine O_step rfl ?_ | refine O_stepL rfl ?_ | refine V_O rfl ?_ | refine O_step rfl ?_ | refine O_nil' ?_ | refine V_cT rfl rfl ?_ | refine V_cF rfl rfl ?_ | refine V_cEq rfl rfl ?_ | refine V_cNe rfl rfl ?_ | refine V_cB rfl rfl (fun _ => ?_) (fun _ => ?_) | refine O_gT' rfl ?_ | refine O_gU' rfl ?_ | refine O_gF' rfl rfl ?_ | refine O_gEq rfl ?_ | refine O_gNe rfl ?_ | refine O_gS rfl (fun _ => ?_) (fun _ => ?_) | refine V_fA rfl rfl ?_ | refine V_fAN rfl rfl ?_ | refine V_D rfl ?_ | refine D_step rfl ?_ | refine D_nil' ?_ | refine D_gT' rfl ?_ | refine D_gU' rfl ?_ | refine D_gF' rfl rfl ?_ | refine D_gS rfl (fun _ => ?_) (fun _ => ?_)
                  rintro x e' st' ⟨rfl, rfl, rfl⟩
                  repeat' first | refine O_is (dec_not g0) rfl ?_ | refine O_cA rfl rfl hc2 ?_ | refine O_cA rfl rfl hn1 ?_ | refine O_cA rfl rfl ha ?_ | refine O_cA rfl rfl hn2 ?_ | refine O_cA rfl rfl hln ?_ | refine O_is (ndec_is g3) rfl ?_ | refine O_is (ndec_not g4) rfl ?_ | refine O_step rfl ?_ | refine O_stepL rfl ?_ | refine V_O rfl ?_ | refine O_step rfl ?_ | refine O_nil' ?_ | refine V_cT rfl rfl ?_ | refine V_cF rfl rfl ?_ | refine V_cEq rfl rfl ?_ | refine V_cNe rfl rfl ?_ | refine V_cB rfl rfl (fun _ => ?_) (fun _ => ?_) | refine O_gT' rfl ?_ | refine O_gU' rfl ?_ | refine O_gF' rfl rfl ?_ | refine O_gEq rfl ?_ | refine O_gNe rfl ?_ | refine O_gS rfl (fun _ => ?_) (fun _ => ?_) | refine V_fA rfl rfl ?_ | refine V_fAN rfl rfl ?_ | refine V_D rfl ?_ | refine D_step rfl ?_ | refine D_nil' ?_ | refine D_gT' rfl ?_ | refine D_gU' rfl ?_ | refine D_gF' rfl rfl ?_ | refine D_gS rfl (fun _ => ?_) (fun _ => ?_)
                  exact ⟨none, rfl, by have hz := hsn (fun _ => nin (fun h => g4 h.2)); simpa using hz⟩
              · refine call_VQ rfl rfl ?_
                repeat' first | refine O_cA rfl rfl hc1 ?_ | refine V_cutTo rfl hlp ⟨rfl, rfl, rfl, rfl, rfl, rfl, rfl, trivial⟩ ?_ | refine O_step rfl ?_ | refine O_stepL rfl ?_ | refine V_O rfl ?_ | refine O_step rfl ?_ | refine O_nil' ?_ | refine V_cT rfl rfl ?_ | refine V_cF rfl rfl ?_ | refine V_cEq rfl rfl ?_ | refine V_cNe rfl rfl ?_ | refine V_cB rfl rfl (fun _ => ?_) (fun _ => ?_) | refine O_gT' rfl ?_ | refine O_gU' rfl ?_ | refine O_gF' rfl rfl ?_ | refine O_gEq rfl ?_ | refine O_gNe rfl ?_ | refine O_gS rfl (fun _ => ?_) (fun _ => ?_) | refine V_fA rfl rfl ?_ | refine V_fAN rfl rfl ?_ | refine V_D rfl ?_ | refine D_step rfl ?_ | refine D_nil' ?_ | refine D_gT' rfl ?_ | refine D_gU' rfl ?_ | refine D_gF' rfl rfl ?_ | refine D_gS rfl (fun _ => ?_) (fun _ => ?_)
                rintro x e' st' ⟨rfl, rfl, rfl⟩
                repeat' first | refine O_is (dec_not g0) rfl ?_ | refine O_cA rfl rfl hc2 ?_ | refine O_cA rfl rfl hn1 ?_ | refine O_cA rfl rfl ha ?_ | refine O_cA rfl rfl hn2 ?_ | refine O_cA rfl rfl hln ?_ | refine O_is (ndec_not g3) rfl ?_ | refine O_step rfl ?_ | refine O_stepL rfl ?_ | refine V_O rfl ?_ | refine O_step rfl ?_ | refine O_nil' ?_ | refine V_cT rfl rfl ?_ | refine V_cF rfl rfl ?_ | refine V_cEq rfl rfl ?_ | refine V_cNe rfl rfl ?_ | refine V_cB rfl rfl (fun _ => ?_) (fun _ => ?_) | refine O_gT' rfl ?_ | refine O_gU' rfl ?_ | refine O_gF' rfl rfl ?_ | refine O_gEq rfl ?_ | refine O_gNe rfl ?_ | refine O_gS rfl (fun _ => ?_) (fun _ => ?_) | refine V_fA rfl rfl ?_ | refine V_fAN rfl rfl ?_ | refine V_D rfl ?_ | refine D_step rfl ?_ | refine D_nil' ?_ | refine D_gT' rfl ?_ | refine D_gU' rfl ?_ | refine D_gF' rfl rfl ?_ | refine D_gS rfl (fun _ => ?_) (fun _ => ?_)
                exact ⟨none, rfl, by have hz := hsn (fun _ => nin (fun h => g3 h.1)); simpa using hz⟩
            · rw [decide_eq_false g2] at hn2
              refine call_VQ rfl rfl ?_
              repeat' first | refine O_cA rfl rfl hc1 ?_ | refine V_cutTo rfl hlp ⟨rfl, rfl, rfl, rfl, rfl, rfl, rfl, trivial⟩ ?_ | refine O_step rfl ?_ | refine O_stepL rfl ?_ | refine V_O rfl ?_ | refine O_step rfl ?_ | refine O_nil' ?_ | refine V_cT rfl rfl ?_ | refine V_cF rfl rfl ?_ | refine V_cEq rfl rfl ?_ | refine V_cNe rfl rfl ?_ | refine V_cB rfl rfl (fun _ => ?_) (fun _ => ?_) | refine O_gT' rfl ?_ | refine O_gU' rfl ?_ | refine O_gF' rfl rfl ?_ | refine O_gEq rfl ?_ | refine O_gNe rfl ?_ | refine O_gS rfl (fun _ => ?_) (fun _ => ?_) | refine V_fA rfl rfl ?_ | refine V_fAN rfl rfl ?_ | refine V_D rfl ?_ | refine D_step rfl ?_ | refine D_nil' ?_ | refine D_gT' rfl ?_ | refine D_gU' rfl ?_ | refine D_gF' rfl rfl ?_ | refine D_gS rfl (fun _ => ?_) (fun _ => ?_)
              rintro x e' st' ⟨rfl, rfl, rfl⟩
              repeat' first | refine O_is (dec_not g0) rfl ?_ | refine O_cA rfl rfl hc2 ?_ | refine O_cA rfl rfl hn1 ?_ | refine O_cA rfl rfl ha ?_ | refine O_cA rfl rfl hn2 ?_ | refine O_step rfl ?_ | refine O_stepL rfl ?_ | refine V_O rfl ?_ | refine O_step rfl ?_ | refine O_nil' ?_ | refine V_cT rfl rfl ?_ | refine V_cF rfl rfl ?_ | refine V_cEq rfl rfl ?_ | refine V_cNe rfl rfl ?_ | refine V_cB rfl rfl (fun _ => ?_) (fun _ => ?_) | refine O_gT' rfl ?_ | refine O_gU' rfl ?_ | refine O_gF' rfl rfl ?_ | refine O_gEq rfl ?_ | refine O_gNe rfl ?_ | refine O_gS rfl (fun _ => ?_) (fun _ => ?_) | refine V_fA rfl rfl ?_ | refine V_fAN rfl rfl ?_ | refine V_D rfl ?_ | refine D_step rfl ?_ | refine D_nil' ?_ | refine D_gT' rfl ?_ | refine D_gU' rfl ?_ | refine D_gF' rfl rfl ?_ | refine D_gS rfl (fun _ => ?_) (fun _ => ?_)
              exact ⟨none, rfl, by have hz := hsn (fun _ k k1 k2 k3 h => g2 ((hmore k n h).2.2 (hone k k1 k2 k3))); simpa using hz⟩
        · have hcK : cand K n more = ⟨K, n, more, 0, 0⟩ := by unfold cand; rw [if_neg g6]
          have hmk : acc (cand K n more) s → has = isAsk K := fun h => by have := (hmore K n h).2.1; rw [decide_eq_false g6, Bool.or_false] at this; exact this
          have hln := run_rLine (k := K) (se := n) (t := more) (to := 0) (ke := 0) hpr (by decide) (by decide) hm
          have fin : (lineR ⟨K, n, more, 0, 0⟩).2 = 0 → (lineR ⟨K, n, more, 0, 0⟩).1 = s → acc (cand K n more) s := fun a b => by rw [hcK]; exact ⟨a, b⟩
          have nin : ¬ ((lineR ⟨K, n, more, 0, 0⟩).2 = 0 ∧ (lineR ⟨K, n, more, 0, 0⟩).1 = s) → ∀ k, 1 ≤ k → k ≤ 6 → wordL k = w → ¬ acc (cand k n more) s := fun a k k1 k2 k3 h => by
            have h4 := hone k k1 k2 k3
            rw [h4, hcK] at h
            exact a h
          generalize lineR ⟨K, n, more, 0, 0⟩ = L at *
          unfold twoS at hln
          have plk := pl_k5 K n more 0 0
          generalize isAsk K = A at *
          cases has with
          | true =>
            cases A with
            | true =>
              by_cases g3 : L.2 = 0
              · by_cases g4 : L.1 = s
                · refine call_VQ rfl rfl ?_
                  repeat' first | refine O_cA rfl rfl hc1 ?_ | refine V_cutTo rfl hlp ⟨rfl, rfl, rfl, rfl, rfl, rfl, rfl, trivial⟩ ?_ | refine O_step rfl ?_ | refine O_stepL rfl ?_ | refine V_O rfl ?_ | refine O_step rfl ?_ | refine O_nil' ?_ | refine V_cT rfl rfl ?_ | refine V_cF rfl rfl ?_ | refine V_cEq rfl rfl ?_ | refine V_cNe rfl rfl ?_ | refine V_cB rfl rfl (fun _ => ?_) (fun _ => ?_) | refine O_gT' rfl ?_ | refine O_gU' rfl ?_ | refine O_gF' rfl rfl ?_ | refine O_gEq rfl ?_ | refine O_gNe rfl ?_ | refine O_gS rfl (fun _ => ?_) (fun _ => ?_) | refine V_fA rfl rfl ?_ | refine V_fAN rfl rfl ?_ | refine V_D rfl ?_ | refine D_step rfl ?_ | refine D_nil' ?_ | refine D_gT' rfl ?_ | refine D_gU' rfl ?_ | refine D_gF' rfl rfl ?_ | refine D_gS rfl (fun _ => ?_) (fun _ => ?_)
                  rintro x e' st' ⟨rfl, rfl, rfl⟩
                  repeat' first | refine O_is (dec_not g0) rfl ?_ | refine O_cA rfl rfl hc2 ?_ | refine O_cA rfl rfl hn1 ?_ | refine O_cA rfl rfl ha ?_ | refine O_is (dec_not g6) rfl ?_ | refine O_cA rfl rfl hln ?_ | refine O_is (ndec_is g3) rfl ?_ | refine O_is (ndec_is g4) rfl ?_ | refine O_step rfl ?_ | refine O_stepL rfl ?_ | refine V_O rfl ?_ | refine O_step rfl ?_ | refine O_nil' ?_ | refine V_cT rfl rfl ?_ | refine V_cF rfl rfl ?_ | refine V_cEq rfl rfl ?_ | refine V_cNe rfl rfl ?_ | refine V_cB rfl rfl (fun _ => ?_) (fun _ => ?_) | refine O_gT' rfl ?_ | refine O_gU' rfl ?_ | refine O_gF' rfl rfl ?_ | refine O_gEq rfl ?_ | refine O_gNe rfl ?_ | refine O_gS rfl (fun _ => ?_) (fun _ => ?_) | refine V_fA rfl rfl ?_ | refine V_fAN rfl rfl ?_ | refine V_D rfl ?_ | refine D_step rfl ?_ | refine D_nil' ?_ | refine D_gT' rfl ?_ | refine D_gU' rfl ?_ | refine D_gF' rfl rfl ?_ | refine D_gS rfl (fun _ => ?_) (fun _ => ?_)
                  exact ⟨some (cand K n more), by rw [hcK]; rfl, .inr ⟨g1, .inr ⟨K, k1, k2, k3, fin g3 g4, rfl⟩⟩⟩
                · refine call_VQ rfl rfl ?_
                  repeat' first | refine O_cA rfl rfl hc1 ?_ | refine V_cutTo rfl hlp ⟨rfl, rfl, rfl, rfl, rfl, rfl, rfl, trivial⟩ ?_ | refine O_step rfl ?_ | refine O_stepL rfl ?_ | refine V_O rfl ?_ | refine O_step rfl ?_ | refine O_nil' ?_ | refine V_cT rfl rfl ?_ | refine V_cF rfl rfl ?_ | refine V_cEq rfl rfl ?_ | refine V_cNe rfl rfl ?_ | refine V_cB rfl rfl (fun _ => ?_) (fun _ => ?_) | refine O_gT' rfl ?_ | refine O_gU' rfl ?_ | refine O_gF' rfl rfl ?_ | refine O_gEq rfl ?_ | refine O_gNe rfl ?_ | refine O_gS rfl (fun _ => ?_) (fun _ => ?_) | refine V_fA rfl rfl ?_ | refine V_fAN rfl rfl ?_ | refine V_D rfl ?_ | refine D_step rfl ?_ | refine D_nil' ?_ | refine D_gT' rfl ?_ | refine D_gU' rfl ?_ | refine D_gF' rfl rfl ?_ | refine D_gS rfl (fun _ => ?_) (fun _ => ?_)
                  rintro x e' st' ⟨rfl, rfl, rfl⟩
                  repeat' first | refine O_is (dec_not g0) rfl ?_ | refine O_cA rfl rfl hc2 ?_ | refine O_cA rfl rfl hn1 ?_ | refine O_cA rfl rfl ha ?_ | refine O_is (dec_not g6) rfl ?_ | refine O_cA rfl rfl hln ?_ | refine O_is (ndec_is g3) rfl ?_ | refine O_is (ndec_not g4) rfl ?_ | refine O_step rfl ?_ | refine O_stepL rfl ?_ | refine V_O rfl ?_ | refine O_step rfl ?_ | refine O_nil' ?_ | refine V_cT rfl rfl ?_ | refine V_cF rfl rfl ?_ | refine V_cEq rfl rfl ?_ | refine V_cNe rfl rfl ?_ | refine V_cB rfl rfl (fun _ => ?_) (fun _ => ?_) | refine O_gT' rfl ?_ | refine O_gU' rfl ?_ | refine O_gF' rfl rfl ?_ | refine O_gEq rfl ?_ | refine O_gNe rfl ?_ | refine O_gS rfl (fun _ => ?_) (fun _ => ?_) | refine V_fA rfl rfl ?_ | refine V_fAN rfl rfl ?_ | refine V_D rfl ?_ | refine D_step rfl ?_ | refine D_nil' ?_ | refine D_gT' rfl ?_ | refine D_gU' rfl ?_ | refine D_gF' rfl rfl ?_ | refine D_gS rfl (fun _ => ?_) (fun _ => ?_)
                  exact ⟨none, rfl, by have hz := hsn (fun _ => nin (fun h => g4 h.2)); simpa using hz⟩
              · refine call_VQ rfl rfl ?_
                repeat' first | refine O_cA rfl rfl hc1 ?_ | refine V_cutTo rfl hlp ⟨rfl, rfl, rfl, rfl, rfl, rfl, rfl, trivial⟩ ?_ | refine O_step rfl ?_ | refine O_stepL rfl ?_ | refine V_O rfl ?_ | refine O_step rfl ?_ | refine O_nil' ?_ | refine V_cT rfl rfl ?_ | refine V_cF rfl rfl ?_ | refine V_cEq rfl rfl ?_ | refine V_cNe rfl rfl ?_ | refine V_cB rfl rfl (fun _ => ?_) (fun _ => ?_) | refine O_gT' rfl ?_ | refine O_gU' rfl ?_ | refine O_gF' rfl rfl ?_ | refine O_gEq rfl ?_ | refine O_gNe rfl ?_ | refine O_gS rfl (fun _ => ?_) (fun _ => ?_) | refine V_fA rfl rfl ?_ | refine V_fAN rfl rfl ?_ | refine V_D rfl ?_ | refine D_step rfl ?_ | refine D_nil' ?_ | refine D_gT' rfl ?_ | refine D_gU' rfl ?_ | refine D_gF' rfl rfl ?_ | refine D_gS rfl (fun _ => ?_) (fun _ => ?_)
                rintro x e' st' ⟨rfl, rfl, rfl⟩
                repeat' first | refine O_is (dec_not g0) rfl ?_ | refine O_cA rfl rfl hc2 ?_ | refine O_cA rfl rfl hn1 ?_ | refine O_cA rfl rfl ha ?_ | refine O_is (dec_not g6) rfl ?_ | refine O_cA rfl rfl hln ?_ | refine O_is (ndec_not g3) rfl ?_ | refine O_step rfl ?_ | refine O_stepL rfl ?_ | refine V_O rfl ?_ | refine O_step rfl ?_ | refine O_nil' ?_ | refine V_cT rfl rfl ?_ | refine V_cF rfl rfl ?_ | refine V_cEq rfl rfl ?_ | refine V_cNe rfl rfl ?_ | refine V_cB rfl rfl (fun _ => ?_) (fun _ => ?_) | refine O_gT' rfl ?_ | refine O_gU' rfl ?_ | refine O_gF' rfl rfl ?_ | refine O_gEq rfl ?_ | refine O_gNe rfl ?_ | refine O_gS rfl (fun _ => ?_) (fun _ => ?_) | refine V_fA rfl rfl ?_ | refine V_fAN rfl rfl ?_ | refine V_D rfl ?_ | refine D_step rfl ?_ | refine D_nil' ?_ | refine D_gT' rfl ?_ | refine D_gU' rfl ?_ | refine D_gF' rfl rfl ?_ | refine D_gS rfl (fun _ => ?_) (fun _ => ?_)
                exact ⟨none, rfl, by have hz := hsn (fun _ => nin (fun h => g3 h.1)); simpa using hz⟩
            | false =>
              refine call_VQ rfl rfl ?_
              repeat' first | refine O_cA rfl rfl hc1 ?_ | refine V_cutTo rfl hlp ⟨rfl, rfl, rfl, rfl, rfl, rfl, rfl, trivial⟩ ?_ | refine O_step rfl ?_ | refine O_stepL rfl ?_ | refine V_O rfl ?_ | refine O_step rfl ?_ | refine O_nil' ?_ | refine V_cT rfl rfl ?_ | refine V_cF rfl rfl ?_ | refine V_cEq rfl rfl ?_ | refine V_cNe rfl rfl ?_ | refine V_cB rfl rfl (fun _ => ?_) (fun _ => ?_) | refine O_gT' rfl ?_ | refine O_gU' rfl ?_ | refine O_gF' rfl rfl ?_ | refine O_gEq rfl ?_ | refine O_gNe rfl ?_ | refine O_gS rfl (fun _ => ?_) (fun _ => ?_) | refine V_fA rfl rfl ?_ | refine V_fAN rfl rfl ?_ | refine V_D rfl ?_ | refine D_step rfl ?_ | refine D_nil' ?_ | refine D_gT' rfl ?_ | refine D_gU' rfl ?_ | refine D_gF' rfl rfl ?_ | refine D_gS rfl (fun _ => ?_) (fun _ => ?_)
              rintro x e' st' ⟨rfl, rfl, rfl⟩
              repeat' first | refine O_is (dec_not g0) rfl ?_ | refine O_cA rfl rfl hc2 ?_ | refine O_cA rfl rfl hn1 ?_ | refine O_cA rfl rfl ha ?_ | refine O_is (dec_not g6) rfl ?_ | refine O_step rfl ?_ | refine O_stepL rfl ?_ | refine V_O rfl ?_ | refine O_step rfl ?_ | refine O_nil' ?_ | refine V_cT rfl rfl ?_ | refine V_cF rfl rfl ?_ | refine V_cEq rfl rfl ?_ | refine V_cNe rfl rfl ?_ | refine V_cB rfl rfl (fun _ => ?_) (fun _ => ?_) | refine O_gT' rfl ?_ | refine O_gU' rfl ?_ | refine O_gF' rfl rfl ?_ | refine O_gEq rfl ?_ | refine O_gNe rfl ?_ | refine O_gS rfl (fun _ => ?_) (fun _ => ?_) | refine V_fA rfl rfl ?_ | refine V_fAN rfl rfl ?_ | refine V_D rfl ?_ | refine D_step rfl ?_ | refine D_nil' ?_ | refine D_gT' rfl ?_ | refine D_gU' rfl ?_ | refine D_gF' rfl rfl ?_ | refine D_gS rfl (fun _ => ?_) (fun _ => ?_)
              exact ⟨none, rfl, by have hz := hsn (fun _ k k1 k2 k3 h => by have h4 := hone k k1 k2 k3; rw [h4] at h; have := hmk h; cases this); simpa using hz⟩
          | false =>
            cases A with
            | true =>
              refine call_VQ rfl rfl ?_
              repeat' first | refine O_cA rfl rfl hc1 ?_ | refine V_cutTo rfl hlp ⟨rfl, rfl, rfl, rfl, rfl, rfl, rfl, trivial⟩ ?_ | refine O_step rfl ?_ | refine O_stepL rfl ?_ | refine V_O rfl ?_ | refine O_step rfl ?_ | refine O_nil' ?_ | refine V_cT rfl rfl ?_ | refine V_cF rfl rfl ?_ | refine V_cEq rfl rfl ?_ | refine V_cNe rfl rfl ?_ | refine V_cB rfl rfl (fun _ => ?_) (fun _ => ?_) | refine O_gT' rfl ?_ | refine O_gU' rfl ?_ | refine O_gF' rfl rfl ?_ | refine O_gEq rfl ?_ | refine O_gNe rfl ?_ | refine O_gS rfl (fun _ => ?_) (fun _ => ?_) | refine V_fA rfl rfl ?_ | refine V_fAN rfl rfl ?_ | refine V_D rfl ?_ | refine D_step rfl ?_ | refine D_nil' ?_ | refine D_gT' rfl ?_ | refine D_gU' rfl ?_ | refine D_gF' rfl rfl ?_ | refine D_gS rfl (fun _ => ?_) (fun _ => ?_)
              rintro x e' st' ⟨rfl, rfl, rfl⟩
              repeat' first | refine O_is (dec_not g0) rfl ?_ | refine O_cA rfl rfl hc2 ?_ | refine O_cA rfl rfl hn1 ?_ | refine O_cA rfl rfl ha ?_ | refine O_is (dec_not g6) rfl ?_ | refine O_step rfl ?_ | refine O_stepL rfl ?_ | refine V_O rfl ?_ | refine O_step rfl ?_ | refine O_nil' ?_ | refine V_cT rfl rfl ?_ | refine V_cF rfl rfl ?_ | refine V_cEq rfl rfl ?_ | refine V_cNe rfl rfl ?_ | refine V_cB rfl rfl (fun _ => ?_) (fun _ => ?_) | refine O_gT' rfl ?_ | refine O_gU' rfl ?_ | refine O_gF' rfl rfl ?_ | refine O_gEq rfl ?_ | refine O_gNe rfl ?_ | refine O_gS rfl (fun _ => ?_) (fun _ => ?_) | refine V_fA rfl rfl ?_ | refine V_fAN rfl rfl ?_ | refine V_D rfl ?_ | refine D_step rfl ?_ | refine D_nil' ?_ | refine D_gT' rfl ?_ | refine D_gU' rfl ?_ | refine D_gF' rfl rfl ?_ | refine D_gS rfl (fun _ => ?_) (fun _ => ?_)
              exact ⟨none, rfl, by have hz := hsn (fun _ k k1 k2 k3 h => by have h4 := hone k k1 k2 k3; rw [h4] at h; have := hmk h; cases this); simpa using hz⟩
            | false =>
              by_cases g3 : L.2 = 0
              · by_cases g4 : L.1 = s
                · refine call_VQ rfl rfl ?_
                  repeat' first | refine O_cA rfl rfl hc1 ?_ | refine V_cutTo rfl hlp ⟨rfl, rfl, rfl, rfl, rfl, rfl, rfl, trivial⟩ ?_ | refine O_step rfl ?_ | refine O_stepL rfl ?_ | refine V_O rfl ?_ | refine O_step rfl ?_ | refine O_nil' ?_ | refine V_cT rfl rfl ?_ | refine V_cF rfl rfl ?_ | refine V_cEq rfl rfl ?_ | refine V_cNe rfl rfl ?_ | refine V_cB rfl rfl (fun _ => ?_) (fun _ => ?_) | refine O_gT' rfl ?_ | refine O_gU' rfl ?_ | refine O_gF' rfl rfl ?_ | refine O_gEq rfl ?_ | refine O_gNe rfl ?_ | refine O_gS rfl (fun _ => ?_) (fun _ => ?_) | refine V_fA rfl rfl ?_ | refine V_fAN rfl rfl ?_ | refine V_D rfl ?_ | refine D_step rfl ?_ | refine D_nil' ?_ | refine D_gT' rfl ?_ | refine D_gU' rfl ?_ | refine D_gF' rfl rfl ?_ | refine D_gS rfl (fun _ => ?_) (fun _ => ?_)
                  rintro x e' st' ⟨rfl, rfl, rfl⟩
                  repeat' first | refine O_is (dec_not g0) rfl ?_ | refine O_cA rfl rfl hc2 ?_ | refine O_cA rfl rfl hn1 ?_ | refine O_cA rfl rfl ha ?_ | refine O_is (dec_not g6) rfl ?_ | refine O_cA rfl rfl hln ?_ | refine O_is (ndec_is g3) rfl ?_ | refine O_is (ndec_is g4) rfl ?_ | refine O_step rfl ?_ | refine O_stepL rfl ?_ | refine V_O rfl ?_ | refine O_step rfl ?_ | refine O_nil' ?_ | refine V_cT rfl rfl ?_ | refine V_cF rfl rfl ?_ | refine V_cEq rfl rfl ?_ | refine V_cNe rfl rfl ?_ | refine V_cB rfl rfl (fun _ => ?_) (fun _ => ?_) | refine O_gT' rfl ?_ | refine O_gU' rfl ?_ | refine O_gF' rfl rfl ?_ | refine O_gEq rfl ?_ | refine O_gNe rfl ?_ | refine O_gS rfl (fun _ => ?_) (fun _ => ?_) | refine V_fA rfl rfl ?_ | refine V_fAN rfl rfl ?_ | refine V_D rfl ?_ | refine D_step rfl ?_ | refine D_nil' ?_ | refine D_gT' rfl ?_ | refine D_gU' rfl ?_ | refine D_gF' rfl rfl ?_ | refine D_gS rfl (fun _ => ?_) (fun _ => ?_)
                  exact ⟨some (cand K n more), by rw [hcK]; rfl, .inr ⟨g1, .inr ⟨K, k1, k2, k3, fin g3 g4, rfl⟩⟩⟩
                · refine call_VQ rfl rfl ?_
                  repeat' first | refine O_cA rfl rfl hc1 ?_ | refine V_cutTo rfl hlp ⟨rfl, rfl, rfl, rfl, rfl, rfl, rfl, trivial⟩ ?_ | refine O_step rfl ?_ | refine O_stepL rfl ?_ | refine V_O rfl ?_ | refine O_step rfl ?_ | refine O_nil' ?_ | refine V_cT rfl rfl ?_ | refine V_cF rfl rfl ?_ | refine V_cEq rfl rfl ?_ | refine V_cNe rfl rfl ?_ | refine V_cB rfl rfl (fun _ => ?_) (fun _ => ?_) | refine O_gT' rfl ?_ | refine O_gU' rfl ?_ | refine O_gF' rfl rfl ?_ | refine O_gEq rfl ?_ | refine O_gNe rfl ?_ | refine O_gS rfl (fun _ => ?_) (fun _ => ?_) | refine V_fA rfl rfl ?_ | refine V_fAN rfl rfl ?_ | refine V_D rfl ?_ | refine D_step rfl ?_ | refine D_nil' ?_ | refine D_gT' rfl ?_ | refine D_gU' rfl ?_ | refine D_gF' rfl rfl ?_ | refine D_gS rfl (fun _ => ?_) (fun _ => ?_)
                  rintro x e' st' ⟨rfl, rfl, rfl⟩
                  repeat' first | refine O_is (dec_not g0) rfl ?_ | refine O_cA rfl rfl hc2 ?_ | refine O_cA rfl rfl hn1 ?_ | refine O_cA rfl rfl ha ?_ | refine O_is (dec_not g6) rfl ?_ | refine O_cA rfl rfl hln ?_ | refine O_is (ndec_is g3) rfl ?_ | refine O_is (ndec_not g4) rfl ?_ | refine O_step rfl ?_ | refine O_stepL rfl ?_ | refine V_O rfl ?_ | refine O_step rfl ?_ | refine O_nil' ?_ | refine V_cT rfl rfl ?_ | refine V_cF rfl rfl ?_ | refine V_cEq rfl rfl ?_ | refine V_cNe rfl rfl ?_ | refine V_cB rfl rfl (fun _ => ?_) (fun _ => ?_) | refine O_gT' rfl ?_ | refine O_gU' rfl ?_ | refine O_gF' rfl rfl ?_ | refine O_gEq rfl ?_ | refine O_gNe rfl ?_ | refine O_gS rfl (fun _ => ?_) (fun _ => ?_) | refine V_fA rfl rfl ?_ | refine V_fAN rfl rfl ?_ | refine V_D rfl ?_ | refine D_step rfl ?_ | refine D_nil' ?_ | refine D_gT' rfl ?_ | refine D_gU' rfl ?_ | refine D_gF' rfl rfl ?_ | refine D_gS rfl (fun _ => ?_) (fun _ => ?_)
                  exact ⟨none, rfl, by have hz := hsn (fun _ => nin (fun h => g4 h.2)); simpa using hz⟩
              · refine call_VQ rfl rfl ?_
                repeat' first | refine O_cA rfl rfl hc1 ?_ | refine V_cutTo rfl hlp ⟨rfl, rfl, rfl, rfl, rfl, rfl, rfl, trivial⟩ ?_ | refine O_step rfl ?_ | refine O_stepL rfl ?_ | refine V_O rfl ?_ | refine O_step rfl ?_ | refine O_nil' ?_ | refine V_cT rfl rfl ?_ | refine V_cF rfl rfl ?_ | refine V_cEq rfl rfl ?_ | refine V_cNe rfl rfl ?_ | refine V_cB rfl rfl (fun _ => ?_) (fun _ => ?_) | refine O_gT' rfl ?_ | refine O_gU' rfl ?_ | refine O_gF' rfl rfl ?_ | refine O_gEq rfl ?_ | refine O_gNe rfl ?_ | refine O_gS rfl (fun _ => ?_) (fun _ => ?_) | refine V_fA rfl rfl ?_ | refine V_fAN rfl rfl ?_ | refine V_D rfl ?_ | refine D_step rfl ?_ | refine D_nil' ?_ | refine D_gT' rfl ?_ | refine D_gU' rfl ?_ | refine D_gF' rfl rfl ?_ | refine D_gS rfl (fun _ => ?_) (fun _ => ?_)
                rintro x e' st' ⟨rfl, rfl, rfl⟩
                repeat' first | refine O_is (dec_not g0) rfl ?_ | refine O_cA rfl rfl hc2 ?_ | refine O_cA rfl rfl hn1 ?_ | refine O_cA rfl rfl ha ?_ | refine O_is (dec_not g6) rfl ?_ | refine O_cA rfl rfl hln ?_ | refine O_is (ndec_not g3) rfl ?_ | refine O_step rfl ?_ | refine O_stepL rfl ?_ | refine V_O rfl ?_ | refine O_step rfl ?_ | refine O_nil' ?_ | refine V_cT rfl rfl ?_ | refine V_cF rfl rfl ?_ | refine V_cEq rfl rfl ?_ | refine V_cNe rfl rfl ?_ | refine V_cB rfl rfl (fun _ => ?_) (fun _ => ?_) | refine O_gT' rfl ?_ | refine O_gU' rfl ?_ | refine O_gF' rfl rfl ?_ | refine O_gEq rfl ?_ | refine O_gNe rfl ?_ | refine O_gS rfl (fun _ => ?_) (fun _ => ?_) | refine V_fA rfl rfl ?_ | refine V_fAN rfl rfl ?_ | refine V_D rfl ?_ | refine D_step rfl ?_ | refine D_nil' ?_ | refine D_gT' rfl ?_ | refine D_gU' rfl ?_ | refine D_gF' rfl rfl ?_ | refine D_gS rfl (fun _ => ?_) (fun _ => ?_)
                exact ⟨none, rfl, by have hz := hsn (fun _ => nin (fun h => g3 h.1)); simpa using hz⟩
      · rw [decide_eq_false g1] at hn1
        refine call_VQ rfl rfl ?_
        repeat' first | refine O_cA rfl rfl hc1 ?_ | refine V_cutTo rfl hlp ⟨rfl, rfl, rfl, rfl, rfl, rfl, rfl, trivial⟩ ?_ | refine O_step rfl ?_ | refine O_stepL rfl ?_ | refine V_O rfl ?_ | refine O_step rfl ?_ | refine O_nil' ?_ | refine V_cT rfl rfl ?_ | refine V_cF rfl rfl ?_ | refine V_cEq rfl rfl ?_ | refine V_cNe rfl rfl ?_ | refine V_cB rfl rfl (fun _ => ?_) (fun _ => ?_) | refine O_gT' rfl ?_ | refine O_gU' rfl ?_ | refine O_gF' rfl rfl ?_ | refine O_gEq rfl ?_ | refine O_gNe rfl ?_ | refine O_gS rfl (fun _ => ?_) (fun _ => ?_) | refine V_fA rfl rfl ?_ | refine V_fAN rfl rfl ?_ | refine V_D rfl ?_ | refine D_step rfl ?_ | refine D_nil' ?_ | refine D_gT' rfl ?_ | refine D_gU' rfl ?_ | refine D_gF' rfl rfl ?_ | refine D_gS rfl (fun _ => ?_) (fun _ => ?_)
        rintro x e' st' ⟨rfl, rfl, rfl⟩
        repeat' first | refine O_is (dec_not g0) rfl ?_ | refine O_cA rfl rfl hc2 ?_ | refine O_cA rfl rfl hn1 ?_ | refine O_step rfl ?_ | refine O_stepL rfl ?_ | refine V_O rfl ?_ | refine O_step rfl ?_ | refine O_nil' ?_ | refine V_cT rfl rfl ?_ | refine V_cF rfl rfl ?_ | refine V_cEq rfl rfl ?_ | refine V_cNe rfl rfl ?_ | refine V_cB rfl rfl (fun _ => ?_) (fun _ => ?_) | refine O_gT' rfl ?_ | refine O_gU' rfl ?_ | refine O_gF' rfl rfl ?_ | refine O_gEq rfl ?_ | refine O_gNe rfl ?_ | refine O_gS rfl (fun _ => ?_) (fun _ => ?_) | refine V_fA rfl rfl ?_ | refine V_fAN rfl rfl ?_ | refine V_D rfl ?_ | refine D_step rfl ?_ | refine D_nil' ?_ | refine D_gT' rfl ?_ | refine D_gU' rfl ?_ | refine D_gF' rfl rfl ?_ | refine D_gS rfl (fun _ => ?_) (fun _ => ?_)
        exact ⟨none, rfl, by have hz := hsn (fun h => absurd h g1); simpa using hz⟩
end Go.Proofs.YtbeaalkfakjoiaaDoor

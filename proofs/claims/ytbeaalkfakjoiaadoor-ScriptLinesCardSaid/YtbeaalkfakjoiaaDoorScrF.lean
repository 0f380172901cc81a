/- What a taken line looks like; rambleref25.ParseLine. -/
import Derived.Test.YtbeaalkfakjoiaaDoorScrE
set_option linter.unusedVariables false
set_option linter.unusedSimpArgs false
namespace Go.Proofs.YtbeaalkfakjoiaaDoor
open Go Go.AM Go.RowKit
open Go.Lib in
theorem itoa_no {n : Int} : (32 : UInt8) ∉ itoa n := by
  have key : ∀ u : Nat, (32 : UInt8) ∉ decDigits u := fun u h => by
    have := ((dec_good u).2.1 32 h).1
    exact absurd this (by decide)
  unfold itoa
  split
  · intro h
    rcases List.mem_cons.1 h with h | h
    · exact absurd h (by decide)
    · exact key _ h
  · exact key _
theorem wordL_no (k : Int) : (32 : UInt8) ∉ wordL k := by
  unfold wordL
  split; decide
  split; decide
  split; decide
  split; decide
  split; decide
  split; decide
  decide
def bodyC (c : Cm) : List UInt8 := if c.k = 6 then Lib.itoa c.to ++ 32 :: Lib.itoa c.ke else if isAsk c.k = true then Lib.itoa c.se ++ 32 :: c.t else Lib.itoa c.se
theorem acc_core {c : Cm} {s : List UInt8} (h : acc c s) : (1 ≤ c.k ∧ c.k ≤ 6) ∧ keepC c = c ∧ cutB 32 s = some (wordL c.k, bodyC c) := by
  obtain ⟨h1, h2⟩ := h
  unfold lineR at h1 h2
  split at h1
  · exact absurd h1 (by decide)
  · rename_i g1
    rw [if_neg g1] at h2
    split at h1
    · exact absurd h1 (by decide)
    · rename_i g2
      rw [if_neg g2] at h2
      split at h1
      · exact absurd h1 (by decide)
      · rename_i g3
        rw [if_neg g3] at h2
        split at h1
        · exact absurd h1 (by decide)
        · rename_i g4
          rw [if_neg g4] at h2
          split at h1
          · exact absurd h1 (by decide)
          · rename_i g5
            rw [if_neg g5] at h2
            have hk : 1 ≤ c.k ∧ c.k ≤ 6 := by
              refine ⟨?_, ?_⟩
              · rcases Int.lt_or_le c.k 1 with h | h
                · exact absurd (wordL_out (.inl h)) g1
                · exact h
              · rcases Int.lt_or_le 6 c.k with h | h
                · exact absurd (wordL_out (.inr h)) g1
                · exact h
            refine ⟨hk, eqC_iff.1 (by simpa using g2), ?_⟩
            have hl : lineC c = wordL c.k ++ 32 :: bodyC c := by
              unfold lineC bodyC
              split
              · simp
              · split
                · simp
                · simp
            have h3 : lineC c = s := h2
            rw [← h3, hl]
            exact cutB_pre _ _ (wordL_no _)
theorem says_of {c : Cm} {s : List UInt8} (h : acc c s) (h1 : R64 c.se) (h2 : R64 c.to) (h3 : R64 c.ke) : Says s (some c) := by
  obtain ⟨hk, hkeep, hcut⟩ := acc_core h
  have hP : cutP s = (wordL c.k, bodyC c) := by unfold cutP; rw [hcut]
  unfold Says
  rw [hP]
  obtain ⟨k, se, t, to, ke⟩ := c
  simp only at *
  by_cases h6 : k = 6
  · subst h6
    have hb : cutP (bodyC ⟨6, se, t, to, ke⟩) = (Lib.itoa to, Lib.itoa ke) := by
      unfold cutP bodyC
      rw [if_pos rfl, cutB_pre _ _ itoa_no]
    rw [hb]
    simp only [itoa_good h2, itoa_good h3]
    have he : cand 6 to (Lib.itoa ke) = ⟨6, se, t, to, ke⟩ := by
      rw [← hkeep]
      unfold cand keepC
      rw [if_pos rfl, if_pos rfl, itoa_good h3]
    exact .inr ⟨by trivial, .inr ⟨6, by omega, by omega, rfl, by rw [he]; exact h, by rw [he]⟩⟩
  · by_cases ha : isAsk k = true
    · have hb : cutP (bodyC ⟨k, se, t, to, ke⟩) = (Lib.itoa se, t) := by
        unfold cutP bodyC
        rw [if_neg h6, if_pos ha, cutB_pre _ _ itoa_no]
      rw [hb]
      simp only [itoa_good h1]
      have he : cand k se t = ⟨k, se, t, to, ke⟩ := by
        rw [← hkeep]
        unfold cand keepC
        rw [if_neg h6, if_neg h6, if_pos ha]
      exact .inr ⟨by trivial, .inr ⟨k, hk.1, hk.2, rfl, by rw [he]; exact h, by rw [he]⟩⟩
    · have hb : cutP (bodyC ⟨k, se, t, to, ke⟩) = (Lib.itoa se, []) := by
        unfold cutP bodyC
        rw [if_neg h6, if_neg ha, cutB_nil _ itoa_no]
      rw [hb]
      simp only [itoa_good h1]
      have he : cand k se [] = ⟨k, se, t, to, ke⟩ := by
        rw [← hkeep]
        unfold cand keepC
        rw [if_neg h6, if_neg h6, if_neg ha]
      exact .inr ⟨by trivial, .inr ⟨k, hk.1, hk.2, rfl, by rw [he]; exact h, by rw [he]⟩⟩
theorem cutP_some {s x y : List UInt8} (h : cutB 32 s = some (x, y)) : cutP s = (x, y) := by unfold cutP; rw [h]
theorem acc_more {s : List UInt8} {k n : Int} (h : acc (cand k n (cutP (cutP s).2).2) s) : (cutB 32 s).isSome = true ∧ (cutB 32 (cutP s).2).isSome = (isAsk k || decide (k = 6)) ∧ (k = 6 → (parT (cutP (cutP s).2).2).2 = 0) := by
  obtain ⟨hk, hkeep, hcut⟩ := acc_core h
  have hck : (cand k n (cutP (cutP s).2).2).k = k := by
    unfold cand
    split
    · rename_i e; exact e.symm
    · rfl
  rw [hck] at hcut
  have hP : (cutP s).2 = bodyC (cand k n (cutP (cutP s).2).2) := congrArg Prod.snd (cutP_some hcut)
  refine ⟨by rw [hcut]; rfl, ?_, fun h6 => ?_⟩
  · generalize hm : (cutP (cutP s).2).2 = more at *
    rw [hP]
    by_cases h6 : k = 6
    · subst h6
      have : bodyC (cand 6 n more) = Lib.itoa n ++ 32 :: Lib.itoa (parT more).1 := rfl
      rw [this, cutB_pre _ _ itoa_no]
      rfl
    · have hc : cand k n more = ⟨k, n, more, 0, 0⟩ := by unfold cand; rw [if_neg h6]
      rw [hc, decide_eq_false h6, Bool.or_false]
      unfold bodyC
      by_cases ha : isAsk k = true
      · rw [if_neg h6, if_pos ha, cutB_pre _ _ itoa_no, ha]
        rfl
      · rw [if_neg h6, if_neg ha, cutB_nil _ itoa_no]
        simp only [Option.isSome_none]
        simpa using ha
  · subst h6
    have hpr := parT_r (cutP (cutP s).2).2
    generalize hm : (cutP (cutP s).2).2 = more at *
    have hb : bodyC (cand 6 n more) = Lib.itoa n ++ 32 :: Lib.itoa (parT more).1 := rfl
    rw [hP, hb] at hm
    unfold cutP at hm
    rw [cutB_pre _ _ itoa_no] at hm
    have hm' : Lib.itoa (parT more).1 = more := hm
    have := itoa_good hpr
    rw [hm'] at this
    rw [this]
def kfin (w : List UInt8) : Nat → Int → Int → Int
  | 0, _, K => K
  | m + 1, kd, K => kfin w m (kd + 1) (if wordL kd = w then kd else K)
theorem kfin_spec (w : List UInt8) : ∀ (m : Nat) (kd K : Int), kd + m = 7 → 1 ≤ kd → ((K = 0 ∧ ∀ j, 1 ≤ j → j < kd → wordL j ≠ w) ∨ (1 ≤ K ∧ K ≤ 6 ∧ wordL K = w)) → ((kfin w m kd K = 0 ∧ ∀ j, 1 ≤ j → j ≤ 6 → wordL j ≠ w) ∨ (1 ≤ kfin w m kd K ∧ kfin w m kd K ≤ 6 ∧ wordL (kfin w m kd K) = w))
  | 0, kd, K, h7, h1, h => by
    rcases h with ⟨h, h2⟩ | h
    · exact .inl ⟨h, fun j j1 j2 => h2 j j1 (by omega)⟩
    · exact .inr h
  | m + 1, kd, K, h7, h1, h => by
    rw [kfin]
    refine kfin_spec w m (kd + 1) _ (by omega) (by omega) ?_
    by_cases hw : wordL kd = w
    · rw [if_pos hw]
      exact .inr ⟨h1, by omega, hw⟩
    · rw [if_neg hw]
      rcases h with ⟨h, h2⟩ | h
      · refine .inl ⟨h, fun j j1 j2 => ?_⟩
        by_cases e : j = kd
        · rw [e]; exact hw
        · exact h2 j j1 (by omega)
      · exact .inr h
theorem rpl_loop (s w rest : List UInt8) (is : Bool) : ∀ (m : Nat) (kd K : Int), kd + m = 7 → 1 ≤ kd →
    V T (PE fun x e st' => x = .exit 0 ∧ e = ecOf [(0, .str s), (2, .ptr 0 0), (5, .str rest), (6, .bool is), (7, .ptr 1 0)] ∧ st' = A1 z5 (k5 (kfin w m kd K) 0 [] 0 0)) [.code (.loop lp_rambleref25_ParseLine_0)] .normal (ecOf [(0, .str s), (2, .ptr 0 0), (4, .str w), (5, .str rest), (6, .bool is), (7, .ptr 1 0), (8, .int .i64 kd)]) (A1 z5 (k5 K 0 [] 0 0)) := by
  intro m
  induction m with
  | zero =>
    intro kd K hm h1
    have hk : ¬ kd ≤ 6 := by omega
    refine V_unroll ?_
    repeat' first | refine O_is (dec_not hk) rfl ?_ | refine V_out [(0, .str s), (2, .ptr 0 0), (5, .str rest), (6, .bool is), (7, .ptr 1 0)] rfl ⟨rfl, rfl, rfl, rfl, rfl, trivial⟩ ⟨rfl, rfl, rfl⟩ | refine V_O rfl ?_ | refine O_step rfl ?_ | refine O_nil' ?_ | refine V_cT rfl rfl ?_ | refine V_cF rfl rfl ?_ | refine V_cEq rfl rfl ?_ | refine V_cNe rfl rfl ?_ | refine V_cB rfl rfl (fun _ => ?_) (fun _ => ?_) | refine O_gT' rfl ?_ | refine O_gU' rfl ?_ | refine O_gF' rfl rfl ?_ | refine O_gEq rfl ?_ | refine O_gNe rfl ?_ | refine O_gS rfl (fun _ => ?_) (fun _ => ?_) | refine V_fA rfl rfl ?_ | refine V_fAN rfl rfl ?_ | refine V_D rfl ?_ | refine D_step rfl ?_ | refine D_nil' ?_ | refine D_gT' rfl ?_ | refine D_gU' rfl ?_ | refine D_gF' rfl rfl ?_ | refine D_gS rfl (fun _ => ?_) (fun _ => ?_)
  | succ m ih =>
    intro kd K hm h1
    have hk : kd ≤ 6 := by omega
    have hwd := run_rWord kd
    have hwr : IntKind.i64.wrap (kd + 1) = kd + 1 := by rw [wrap_i64]; omega
    rw [kfin]
    by_cases hw : wordL kd = w
    · rw [if_pos hw]
      have hi := ih (kd + 1) kd (by omega) (by omega)
      have hq := hw.symm
      generalize wordL kd = W at hwd hw hq
      refine V_unroll ?_
      repeat' first | refine O_is (dec_is hk) rfl ?_ | refine O_cA rfl rfl hwd ?_ | refine O_is (dec_is hq) rfl ?_ | refine V_re rfl hi ⟨rfl, rfl, rfl, rfl, rfl, rfl, some_int hwr, trivial⟩ | refine O_step rfl ?_ | refine O_stepL rfl ?_ | refine V_O rfl ?_ | refine O_step rfl ?_ | refine O_nil' ?_ | refine V_cT rfl rfl ?_ | refine V_cF rfl rfl ?_ | refine V_cEq rfl rfl ?_ | refine V_cNe rfl rfl ?_ | refine V_cB rfl rfl (fun _ => ?_) (fun _ => ?_) | refine O_gT' rfl ?_ | refine O_gU' rfl ?_ | refine O_gF' rfl rfl ?_ | refine O_gEq rfl ?_ | refine O_gNe rfl ?_ | refine O_gS rfl (fun _ => ?_) (fun _ => ?_) | refine V_fA rfl rfl ?_ | refine V_fAN rfl rfl ?_ | refine V_D rfl ?_ | refine D_step rfl ?_ | refine D_nil' ?_ | refine D_gT' rfl ?_ | refine D_gU' rfl ?_ | refine D_gF' rfl rfl ?_ | refine D_gS rfl (fun _ => ?_) (fun _ => ?_)
    · rw [if_neg hw]
      have hi := ih (kd + 1) K (by omega) (by omega)
      have hq : ¬ w = wordL kd := fun e => hw e.symm
      generalize wordL kd = W at hwd hw hq
      refine V_unroll ?_
      repeat' first | refine O_is (dec_is hk) rfl ?_ | refine O_cA rfl rfl hwd ?_ | refine O_is (dec_not hq) rfl ?_ | refine V_re rfl hi ⟨rfl, rfl, rfl, rfl, rfl, rfl, some_int hwr, trivial⟩ | refine O_step rfl ?_ | refine O_stepL rfl ?_ | refine V_O rfl ?_ | refine O_step rfl ?_ | refine O_nil' ?_ | refine V_cT rfl rfl ?_ | refine V_cF rfl rfl ?_ | refine V_cEq rfl rfl ?_ | refine V_cNe rfl rfl ?_ | refine V_cB rfl rfl (fun _ => ?_) (fun _ => ?_) | refine O_gT' rfl ?_ | refine O_gU' rfl ?_ | refine O_gF' rfl rfl ?_ | refine O_gEq rfl ?_ | refine O_gNe rfl ?_ | refine O_gS rfl (fun _ => ?_) (fun _ => ?_) | refine V_fA rfl rfl ?_ | refine V_fAN rfl rfl ?_ | refine V_D rfl ?_ | refine D_step rfl ?_ | refine D_nil' ?_ | refine D_gT' rfl ?_ | refine D_gU' rfl ?_ | refine D_gF' rfl rfl ?_ | refine D_gS rfl (fun _ => ?_) (fun _ => ?_)
end Go.Proofs.YtbeaalkfakjoiaaDoor

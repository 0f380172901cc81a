/- What a taken line looks like; rambleref25.ParseLine. -/
import Derived.Test.YtbeaalkfakjoiaaDoorScrE
set_option linter.unusedVariables false
set_option linter.unusedSimpArgs false
namespace Go.Proofs.YtbeaalkfakjoiaaDoor
open Go Go.AM Go.RowKit
open Go.Lib in
theorem itoa_no {n : Int} : (32 : UInt8) ∉ itoa n := by
  have key : ∀ u : Nat, (32 : UInt8) ∉ decDigits u := fun u h => by
    have := ((dec_good u).2.1 32 h).1
    exact absurd this (by decide)
  unfold itoa
  split
  · intro h
    rcases List.mem_cons.1 h with h | h
    · exact absurd h (by decide)
    · exact key _ h
  · exact key _
theorem wordL_no (k : Int) : (32 : UInt8) ∉ wordL k := by
  unfold wordL
  split; decide
  split; decide
  split; decide
  split; decide
  split; decide
  split; decide
  decide
def bodyC (c : Cm) : List UInt8 := if c.k = 6 then Lib.itoa c.to ++ 32 :: Lib.itoa c.ke else if isAsk c.k = true then Lib.itoa c.se ++ 32 :: c.t else Lib.itoa c.se
theorem acc_core {c : Cm} {s : List UInt8} (h : acc c s) : (1 ≤ c.k ∧ c.k ≤ 6) ∧ keepC c = c ∧ cutB 32 s = some (wordL c.k, bodyC c) := by
  obtain ⟨h1, h2⟩ := h
  unfold lineR at h1 h2
  split at h1
  · exact absurd h1 (by decide)
  · rename_i g1
    rw [if_neg g1] at h2
    split at h1
    · exact absurd h1 (by decide)
    · rename_i g2
      rw [if_neg g2] at h2
      split at h1
      · exact absurd h1 (by decide)
      · rename_i g3
        rw [if_neg g3] at h2
        split at h1
        · exact absurd h1 (by decide)
        · rename_i g4
          rw [if_neg g4] at h2
          split at h1
          · exact absurd h1 (by decide)
          · rename_i g5
            rw [if_neg g5] at h2
            have hk : 1 ≤ c.k ∧ c.k ≤ 6 := by
              refine ⟨?_, ?_⟩
              · rcases Int.lt_or_le c.k 1 with h | h
                · exact absurd (wordL_out (.inl h)) g1
                · exact h
              · rcases Int.lt_or_le 6 c.k with h | h
                · exact absurd (wordL_out (.inr h)) g1
                · exact h
            refine ⟨hk, eqC_iff.1 (by simpa using g2), ?_⟩
            have hl : lineC c = wordL c.k ++ 32 :: bodyC c := by
              unfold lineC bodyC
              split
              · simp
              · split
                · simp
                · simp
            have h3 : lineC c = s := h2
            rw [← h3, hl]
            exact cutB_pre _ _ (wordL_no _)
theorem says_of {c : Cm} {s : List UInt8} (h : acc c s) (h1 : R64 c.se) (h2 : R64 c.to) (h3 : R64 c.ke) : Says s (some c) := by
  obtain ⟨hk, hkeep, hcut⟩ := acc_core h
  have hP : cutP s = (wordL c.k, bodyC c) := by unfold cutP; rw [hcut]
  unfold Says
  rw [hP]
  obtain ⟨k, se, t, to, ke⟩ := c
  simp only at *
  by_cases h6 : k = 6
  · subst h6
    have hb : cutP (bodyC ⟨6, se, t, to, ke⟩) = (Lib.itoa to, Lib.itoa ke) := by
      unfold cutP bodyC
      rw [if_pos rfl, cutB_pre _ _ itoa_no]
    rw [hb]
    simp only [itoa_good h2, itoa_good h3]
    have he : cand 6 to (Lib.itoa ke) = ⟨6, se, t, to, ke⟩ := by
      rw [← hkeep]
      unfold cand keepC
      rw [if_pos rfl, if_pos rfl, itoa_good h3]
    exact .inr ⟨by trivial, .inr ⟨6, by omega, by omega, rfl, by rw [he]; exact h, by rw [he]⟩⟩
  · by_cases ha : isAsk k = true
    · have hb : cutP (bodyC ⟨k, se, t, to, ke⟩) = (Lib.itoa se, t) := by
        unfold cutP bodyC
        rw [if_neg h6, if_pos ha, cutB_pre _ _ itoa_no]
      rw [hb]
      simp only [itoa_good h1]
      have he : cand k se t = ⟨k, se, t, to, ke⟩ := by
        rw [← hkeep]
        unfold cand keepC
        rw [if_neg h6, if_neg h6, if_pos ha]
      exact .inr ⟨by trivial, .inr ⟨k, hk.1, hk.2, rfl, by rw [he]; exact h, by rw [he]⟩⟩
    · have hb : cutP (bodyC ⟨k, se, t, to, ke⟩) = (Lib.itoa se, []) := by
        unfold cutP bodyC
        rw [if_neg h6, if_neg ha, cutB_nil _ itoa_no]
      rw [hb]
      simp only [itoa_good h1]
      have he : cand k se [] = ⟨k, se, t, to, ke⟩ := by
        rw [← hkeep]
        unfold cand keepC
        rw [if_neg h6, if_neg h6, if_neg ha]
      exact .inr ⟨by trivial, .inr ⟨k, hk.1, hk.2, rfl, by rw [he]; exact h, by rw [he]⟩⟩
end Go.Proofs.YtbeaalkfakjoiaaDoor

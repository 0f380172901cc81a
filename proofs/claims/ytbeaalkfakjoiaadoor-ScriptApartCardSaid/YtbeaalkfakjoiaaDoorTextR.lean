/- rambleref01.Digits and Text. -/
import Derived.Test.YtbeaalkfakjoiaaDoorTextB
set_option linter.unusedVariables false
set_option linter.unusedSimpArgs false
namespace Go.Proofs.YtbeaalkfakjoiaaDoor
open Go Go.AM Go.RowKit
open Go.Lib in
theorem dec_len : ∀ (k u : Nat), u < 10 ^ (k + 1) → (decDigits u).length ≤ k + 1
  | 0, u, h => by rw [dec_small (by simpa using h)]; simp
  | k + 1, u, h => by
    by_cases h1 : u < 10
    · rw [dec_small h1]; simp
    · have := dec_len k (u / 10) (by rw [Nat.pow_succ] at h; omega)
      rw [dec_snoc h1]
      simp
      omega
open Go.Lib in
theorem itoa_len {n : Int} (h : R64 n) : (itoa n).length ≤ 21 := by
  unfold R64 at h
  have p20 : (10 : Nat) ^ (19 + 1) = 100000000000000000000 := by decide
  unfold itoa
  split
  · have := dec_len 19 n.natAbs (by rw [p20]; omega)
    simp
    omega
  · have := dec_len 19 n.toNat (by rw [p20]; omega)
    omega
def DL (st : St) (v : PV) (es : List (List PV)) : Prop := v = .sl es true ∨ ∃ t, v = .osl t 0 0 es.length false ∧ st.get t = some (.row 0 1 es true)
theorem DL.src {st : St} {v : PV} {es : List (List PV)} (h : DL st v es) : srcOf st v = some es := by
  rcases h with rfl | ⟨t, rfl, hg⟩
  · rfl
  · simp only [srcOf, elemsOf, hg]
    rw [if_pos ⟨trivial, by omega⟩]
    simp
theorem DL.len {st : St} {v : PV} {es : List (List PV)} (h : DL st v es) : lenOf v = some es.length ∧ isStr v = false := by
  rcases h with rfl | ⟨t, rfl, hg⟩ <;> exact ⟨rfl, rfl⟩
end Go.Proofs.YtbeaalkfakjoiaaDoor

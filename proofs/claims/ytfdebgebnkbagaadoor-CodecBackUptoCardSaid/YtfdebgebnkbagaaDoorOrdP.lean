/- Keys stand as their values do: the plain law. -/
import Derived.Test.YtfdebgebnkbagaaDoorCodF
set_option linter.unusedVariables false
set_option linter.unusedSimpArgs false
namespace Go.Proofs.YtfdebgebnkbagaaDoor
open Go Go.AM Go.RowKit
def Good (v : Val) : Prop := mayV 8 v = true ∧ v.kind ≠ 4 ∧ v.kind ≠ 5
theorem keyR_flat : ∀ {l : List Val} {P : List UInt8}, keyR l = .ok P → P = l.flatMap formV ∧ ∀ v ∈ l, Good v
  | [], P, h => by
    injection h with h
    subst h
    exact ⟨rfl, fun v hv => by cases hv⟩
  | v :: l, P, h => by
    unfold keyR at h
    split at h
    · rename_i hm
      split at h
      · cases h
      · rename_i hk
        cases hr : keyR l with
        | error e => rw [hr] at h; cases h
        | ok P' =>
          rw [hr] at h
          injection h with h
          subst h
          obtain ⟨h1, h2⟩ := keyR_flat hr
          subst h1
          refine ⟨by simp, fun w hw => ?_⟩
          rcases List.mem_cons.1 hw with rfl | hw
          · exact ⟨hm, fun e => hk (.inl e), fun e => hk (.inr e)⟩
          · exact h2 w hw
    · cases h
theorem be_mod : ∀ (j m : Nat), be j m = be j (m % 256 ^ j)
  | 0, m => rfl
  | j + 1, m => by
    unfold be
    have h1 : 0 < 256 ^ j := Nat.pow_pos (by omega)
    have e1 : UInt8.ofNat (m / 256 ^ j) = UInt8.ofNat (m % 256 ^ (j + 1) / 256 ^ j) := by
      rw [Nat.pow_succ, Nat.mod_mul_right_div_self]
      apply UInt8.toNat_inj.1
      simp
    have e2 : m % 256 ^ (j + 1) % 256 ^ j = m % 256 ^ j := by
      rw [Nat.pow_succ, Nat.mod_mul_right_mod]
    rw [e1, be_mod j m, be_mod j (m % 256 ^ (j + 1)), e2]
theorem esc_cons (a : UInt8) (s : List UInt8) : esc (a :: s) = (if a = 0 then [0, 255] else [a]) ++ esc s := rfl
theorem good_cases {k n : Int} {s : List UInt8} {l : List Val} (h : Good (.mk k n s l)) :
    (k = 1 ∧ s = [] ∧ l = []) ∨ (k = 3 ∧ s = [] ∧ l = [] ∧ (n = 0 ∨ n = 1)) ∨ (k = 6 ∧ s = [] ∧ l = []) ∨ (k = 7 ∧ s = [] ∧ l = []) ∨ (k = 2 ∧ n = 0 ∧ l = []) := by
  obtain ⟨hm, h4, h5⟩ := h
  simp only [Val.kind] at h4 h5
  simp only [mayV] at hm
  split at hm
  · simp at hm; simp [*]
  · split at hm
    · simp at hm; simp [*]
    · split at hm
      · simp at hm; simp [*]
      · split at hm
        · simp at hm; simp [*]
        · split at hm
          · simp at hm; simp [*]
          · exfalso
            first | (cases hm; done) | (simp [h4, h5] at hm)
theorem form_ne (v : Val) : formV v ≠ [] := by obtain ⟨k, n, s, l⟩ := v; simp [formV]
end Go.Proofs.YtfdebgebnkbagaaDoor

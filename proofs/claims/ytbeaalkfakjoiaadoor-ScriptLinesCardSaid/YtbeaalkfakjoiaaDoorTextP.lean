/- A number's digits, and the number of a text, over plain values: the library's functions and this page's. -/
import Derived.Test.YtbeaalkfakjoiaaDoorNumB
import Derived.Lib.ItoaNum
import Derived.Lib.ParseIntBTie
set_option linter.unusedVariables false
set_option linter.unusedSimpArgs false
namespace Go.Proofs.YtbeaalkfakjoiaaDoor
open Go Go.AM Go.RowKit
abbrev IsD (c : UInt8) : Prop := 48 ≤ c.toNat ∧ c.toNat ≤ 57
def digV (a : Nat) (c : UInt8) : Nat := a * 10 + (c.toNat - 48)
def valD (a : Nat) (l : List UInt8) : Nat := l.foldl digV a
theorem valD_nil (a : Nat) : valD a [] = a := rfl
theorem valD_cons (a : Nat) (c : UInt8) (r : List UInt8) : valD a (c :: r) = valD (a * 10 + (c.toNat - 48)) r := by unfold valD; rw [List.foldl_cons]; rfl
theorem valD_le (l : List UInt8) : ∀ a : Nat, a ≤ valD a l := by
  induction l with
  | nil => intro a; rw [valD_nil]; exact Nat.le_refl _
  | cons c r ih =>
    intro a
    have h := ih (a * 10 + (c.toNat - 48))
    rw [valD_cons]
    omega
theorem valD_snoc (l : List UInt8) (c : UInt8) : ∀ a : Nat, valD a (l ++ [c]) = valD a l * 10 + (c.toNat - 48) := by
  intro a
  unfold valD
  rw [List.foldl_append]
  rfl
def bodyD (s : List UInt8) : List UInt8 := if s.head? = some 45 then s.tail else s
def sgnD (s : List UInt8) : Int := if s.head? = some 45 then -(valD 0 (bodyD s) : Int) else valD 0 (bodyD s)
def GoodD (s : List UInt8) : Prop := bodyD s ≠ [] ∧ (∀ c ∈ bodyD s, IsD c) ∧ ((bodyD s).head? = some 48 → s = [48])
noncomputable instance (s : List UInt8) : Decidable (GoodD s) := Classical.propDecidable _
instance (n : Int) : Decidable (R64 n) := by unfold R64; exact inferInstance
noncomputable def parT (s : List UInt8) : Int × Int := if GoodD s then ans (sgnD s) else (0, 10)
open Go.Lib in
theorem parseUint10_dig (l : List UInt8) : ∀ a : Nat, (∀ c ∈ l, IsD c) → a < 18446744073709551616 → parseUint10 a l = if valD a l < 18446744073709551616 then .ok (valD a l) else .range := by
  induction l with
  | nil => intro a h ha; rw [parseUint10, valD_nil, if_pos ha]
  | cons c r ih =>
    intro a h ha
    have hc := h c (by simp)
    unfold IsD at hc
    have hle := valD_le r (a * 10 + (c.toNat - 48))
    rw [parseUint10, valD_cons, if_pos hc]
    by_cases h1 : 1844674407370955162 ≤ a
    · rw [if_pos h1, if_neg (by omega)]
    · rw [if_neg h1]
      by_cases h2 : 18446744073709551616 ≤ a * 10 + (c.toNat - 48)
      · rw [if_pos h2, if_neg (by omega)]
      · rw [if_neg h2]
        exact ih _ (fun d hd => h d (by simp [hd])) (by omega)
open Go.Lib in
theorem parseInt_dig {s : List UInt8} (h : GoodD s) : parseIntB 64 s = if R64 (sgnD s) then .ok (sgnD s) else .range := by
  obtain ⟨h1, h2, _⟩ := h
  rw [parseIntB_64]
  cases s with
  | nil => exact absurd rfl h1
  | cons c r =>
    by_cases h45 : c = 45
    · subst h45
      have hb : bodyD (45 :: r) = r := rfl
      have hs : sgnD (45 :: r) = -(valD 0 r : Int) := rfl
      rw [hb] at h1 h2
      rw [hs, atoiAll_minus, parseMag, if_neg h1, parseUint10_dig r 0 h2 (by decide)]
      by_cases hlt : valD 0 r < 18446744073709551616
      · rw [if_pos hlt]
        simp only [Lib.signed]
        by_cases h3 : 9223372036854775808 < valD 0 r
        · rw [if_pos h3, if_neg (by unfold R64; omega)]
        · rw [if_neg h3, if_pos (by unfold R64; omega)]
      · rw [if_neg hlt, if_neg (by unfold R64; omega)]
        rfl
    · have hh : (c :: r).head? ≠ some 45 := by simp [h45]
      have hb : bodyD (c :: r) = c :: r := by unfold bodyD; rw [if_neg hh]
      have hs : sgnD (c :: r) = (valD 0 (c :: r) : Int) := by unfold sgnD; rw [if_neg hh, hb]
      rw [hb] at h2
      have hc := h2 c (by simp)
      unfold IsD at hc
      rw [hs, atoiAll_plain c r (by omega) (by omega), parseMag, if_neg (by simp), parseUint10_dig (c :: r) 0 h2 (by decide)]
      by_cases hlt : valD 0 (c :: r) < 18446744073709551616
      · rw [if_pos hlt]
        simp only [Lib.signless]
        by_cases h3 : 9223372036854775808 ≤ valD 0 (c :: r)
        · rw [if_pos h3, if_neg (by unfold R64; omega)]
        · rw [if_neg h3, if_pos (by unfold R64; omega)]
      · rw [if_neg hlt, if_neg (by unfold R64; omega)]
        rfl
open Go.Lib in
theorem dec_snoc {u : Nat} (h : ¬ u < 10) : decDigits u = decDigits (u / 10) ++ [UInt8.ofNat (48 + u % 10)] := by
  rw [decDigits, dif_neg h]
open Go.Lib in
theorem dec_small {u : Nat} (h : u < 10) : decDigits u = [UInt8.ofNat (48 + u)] := by
  rw [decDigits, dif_pos h]
theorem dig_nat {d : Nat} (h : d < 10) : (UInt8.ofNat (48 + d)).toNat = 48 + d := by simp; omega
open Go.Lib in
theorem dec_good (u : Nat) : decDigits u ≠ [] ∧ (∀ c ∈ decDigits u, IsD c) ∧ valD 0 (decDigits u) = u ∧ ((decDigits u).head? = some 48 → u = 0) := by
  induction u using Nat.strongRecOn with
  | _ u ih =>
    by_cases h : u < 10
    · rw [dec_small h]
      refine ⟨by simp, fun c hc => ?_, ?_, fun hh => ?_⟩
      · simp only [List.mem_singleton] at hc
        subst hc
        unfold IsD
        rw [dig_nat h]
        omega
      · rw [valD_cons, valD_nil, dig_nat h]
        omega
      · injection hh with hh
        have := congrArg UInt8.toNat hh
        rw [dig_nat h] at this
        have h48 : (48 : UInt8).toNat = 48 := rfl
        omega
    · obtain ⟨i1, i2, i3, i4⟩ := ih (u / 10) (by omega)
      have hd := dig_nat (d := u % 10) (by omega)
      rw [dec_snoc h]
      refine ⟨by simp, fun c hc => ?_, ?_, fun hh => ?_⟩
      · rcases List.mem_append.1 hc with hc | hc
        · exact i2 c hc
        · simp only [List.mem_singleton] at hc
          subst hc
          unfold IsD
          rw [hd]
          omega
      · rw [valD_snoc, i3, hd]
        omega
      · cases hl : decDigits (u / 10) with
        | nil => exact absurd hl i1
        | cons a l =>
          rw [hl] at hh i4
          have := i4 hh
          omega
open Go.Lib in
theorem itoa_good {n : Int} (h : R64 n) : parT (itoa n) = (n, 0) := by
  have hA : ans n = (n, 0) := by unfold R64 at h; unfold ans; rw [if_pos h]
  unfold itoa
  by_cases hn : n < 0
  · rw [if_pos hn]
    obtain ⟨i1, i2, i3, i4⟩ := dec_good n.natAbs
    have hb : bodyD (45 :: decDigits n.natAbs) = decDigits n.natAbs := rfl
    have hs : sgnD (45 :: decDigits n.natAbs) = n := by
      show -(valD 0 (decDigits n.natAbs) : Int) = n
      rw [i3]
      omega
    have hg : GoodD (45 :: decDigits n.natAbs) := by
      refine ⟨by rw [hb]; exact i1, by rw [hb]; exact i2, fun hh => ?_⟩
      rw [hb] at hh
      have := i4 hh
      omega
    unfold parT
    rw [if_pos hg, hs, hA]
  · rw [if_neg hn]
    obtain ⟨i1, i2, i3, i4⟩ := dec_good n.toNat
    have hh : (decDigits n.toNat).head? ≠ some 45 := by
      cases hl : decDigits n.toNat with
      | nil => simp
      | cons a l =>
        have := i2 a (by rw [hl]; simp)
        unfold IsD at this
        intro h
        injection h with h
        subst h
        have h45 : (45 : UInt8).toNat = 45 := rfl
        omega
    have hb : bodyD (decDigits n.toNat) = decDigits n.toNat := by unfold bodyD; rw [if_neg hh]
    have hs : sgnD (decDigits n.toNat) = n := by
      unfold sgnD
      rw [if_neg hh, hb, i3]
      omega
    have hg : GoodD (decDigits n.toNat) := by
      refine ⟨by rw [hb]; exact i1, by rw [hb]; exact i2, fun hh => ?_⟩
      rw [hb] at hh
      have := i4 hh
      rw [this, dec_small (by omega)]
      rfl
    unfold parT
    rw [if_pos hg, hs, hA]
end Go.Proofs.YtbeaalkfakjoiaaDoor

/- Keys stand as their values do: the plain law. -/
import Derived.Test.YtfdebgebnkbagaaDoorCodF
set_option linter.unusedVariables false
set_option linter.unusedSimpArgs false
namespace Go.Proofs.YtfdebgebnkbagaaDoor
open Go Go.AM Go.RowKit

/-- What has a key. -/
def Good (v : Val) : Prop := mayV 8 v = true ∧ v.kind ≠ 4 ∧ v.kind ≠ 5
theorem keyR_flat : ∀ {l : List Val} {P : List UInt8}, keyR l = .ok P → P = l.flatMap formV ∧ ∀ v ∈ l, Good v
  | [], P, h => by
    injection h with h
    subst h
    exact ⟨rfl, fun v hv => by cases hv⟩
  | v :: l, P, h => by
    unfold keyR at h
    split at h
    · rename_i hm
      split at h
      · cases h
      · rename_i hk
        cases hr : keyR l with
        | error e => rw [hr] at h; cases h
        | ok P' =>
          rw [hr] at h
          injection h with h
          subst h
          obtain ⟨h1, h2⟩ := keyR_flat hr
          subst h1
          refine ⟨by simp, fun w hw => ?_⟩
          rcases List.mem_cons.1 hw with rfl | hw
          · exact ⟨hm, fun e => hk (.inl e), fun e => hk (.inr e)⟩
          · exact h2 w hw
    · cases h
theorem orI_ne {a b : Int} (h : a ≠ 0) : orI a b = a := if_neg h
theorem ofNat_toNat {k : Nat} (h : k < 256) : ((UInt8.ofNat k).toNat : Int) = k := by simp; omega
theorem cmpS_head {a b : UInt8} (h : a ≠ b) (x y : List UInt8) : cmpS (a :: x) (b :: y) = cmpI a.toNat b.toNat := by
  unfold cmpS
  rw [if_neg h]
theorem cmpS_same (a : UInt8) (x y : List UInt8) : cmpS (a :: x) (a :: y) = cmpS x y := by simp [cmpS]
theorem be_mod : ∀ (j m : Nat), be j m = be j (m % 256 ^ j)
  | 0, m => rfl
  | j + 1, m => by
    unfold be
    have h1 : 0 < 256 ^ j := Nat.pow_pos (by omega)
    have e1 : UInt8.ofNat (m / 256 ^ j) = UInt8.ofNat (m % 256 ^ (j + 1) / 256 ^ j) := by
      rw [Nat.pow_succ, Nat.mod_mul_right_div_self]
      apply UInt8.toNat_inj.1
      simp
    have e2 : m % 256 ^ (j + 1) % 256 ^ j = m % 256 ^ j := by
      rw [Nat.pow_succ, Nat.mod_mul_right_mod]
    rw [e1, be_mod j m, be_mod j (m % 256 ^ (j + 1)), e2]
theorem cmpI_shift (q r r' M M' : Nat) (h : M = q + r) (h' : M' = q + r') : cmpI (r : Int) r' = cmpI (M : Int) M' := by
  subst h h'
  unfold cmpI
  by_cases h1 : r < r'
  · rw [if_pos (by omega), if_pos (by omega)]
  · by_cases h2 : r' < r
    · rw [if_neg (by omega), if_pos (by omega), if_neg (by omega), if_pos (by omega)]
    · rw [if_neg (by omega), if_neg (by omega), if_neg (by omega), if_neg (by omega)]
theorem be_cmp : ∀ (j m m' : Nat) (x y : List UInt8), m < 256 ^ j → m' < 256 ^ j → m ≠ m' → cmpS (be j m ++ x) (be j m' ++ y) = cmpI m m'
  | 0, m, m', x, y, h, h', hne => by simp at h h'; omega
  | j + 1, m, m', x, y, h, h', hne => by
    have hp : 0 < 256 ^ j := Nat.pow_pos (by omega)
    have hq : m / 256 ^ j < 256 := by rw [Nat.div_lt_iff_lt_mul hp, Nat.mul_comm, ← Nat.pow_succ]; exact h
    have hq' : m' / 256 ^ j < 256 := by rw [Nat.div_lt_iff_lt_mul hp, Nat.mul_comm, ← Nat.pow_succ]; exact h'
    have hm := Nat.div_add_mod m (256 ^ j)
    have hm' := Nat.div_add_mod m' (256 ^ j)
    have hr := Nat.mod_lt m hp
    have hr' := Nat.mod_lt m' hp
    unfold be
    simp only [List.cons_append]
    generalize m / 256 ^ j = a at *
    generalize m' / 256 ^ j = b at *
    by_cases hab : a = b
    · subst hab
      rw [cmpS_same, be_mod j m, be_mod j m', be_cmp j _ _ x y hr hr' (by intro e; rw [e] at hm; omega)]
      exact cmpI_shift (256 ^ j * a) _ _ m m' (by omega) (by omega)
    · rw [cmpS_head (fun e => hab (by have := congrArg (fun u : UInt8 => (u.toNat : Int)) e; simp only [ofNat_toNat hq, ofNat_toNat hq'] at this; omega)), ofNat_toNat hq, ofNat_toNat hq']
      unfold cmpI
      rcases Nat.lt_or_gt_of_ne hab with hlt | hlt
      · have : 256 ^ j * (a + 1) ≤ 256 ^ j * b := Nat.mul_le_mul_left _ hlt
        rw [Nat.mul_add] at this
        rw [if_pos (by omega), if_pos (by omega)]
      · have : 256 ^ j * (b + 1) ≤ 256 ^ j * a := Nat.mul_le_mul_left _ hlt
        rw [Nat.mul_add] at this
        rw [if_neg (by omega), if_pos (by omega), if_neg (by omega), if_pos (by omega)]
theorem esc_cons (a : UInt8) (s : List UInt8) : esc (a :: s) = (if a = 0 then [0, 255] else [a]) ++ esc s := rfl
theorem u8_pos {a : UInt8} (h : a ≠ 0) : (0 : Int) < a.toNat := by
  have : a.toNat ≠ 0 := fun e => h (UInt8.toNat_inj.1 e)
  omega
theorem esc_cmp : ∀ (s t x y : List UInt8), s ≠ t → cmpS (esc s ++ (0 :: 1 :: x)) (esc t ++ (0 :: 1 :: y)) = cmpS s t
  | [], [], x, y, h => absurd rfl h
  | [], b :: t, x, y, h => by
    rw [esc_cons]
    by_cases hb : b = 0
    · subst hb
      simp only [esc, List.flatMap_nil, if_true, List.nil_append, List.cons_append]
      rw [cmpS_same, cmpS_head (by decide)]
      rfl
    · simp only [esc, List.flatMap_nil, if_neg hb, List.nil_append, List.cons_append]
      rw [cmpS_head (fun e => hb e.symm)]
      exact cmpI_neg' (u8_pos hb)
  | a :: s, [], x, y, h => by
    rw [esc_cons]
    by_cases ha : a = 0
    · subst ha
      simp only [esc, List.flatMap_nil, if_true, List.nil_append, List.cons_append]
      rw [cmpS_same, cmpS_head (by decide)]
      rfl
    · simp only [esc, List.flatMap_nil, if_neg ha, List.nil_append, List.cons_append]
      rw [cmpS_head ha]
      exact cmpI_one' (u8_pos ha)
  | a :: s, b :: t, x, y, h => by
    rw [esc_cons, esc_cons]
    by_cases hab : a = b
    · subst hab
      have hst : s ≠ t := fun e => h (by rw [e])
      rw [List.append_assoc, List.append_assoc, cmpS_pre, cmpS_same]
      exact esc_cmp s t x y hst
    · by_cases ha : a = 0
      · subst ha
        have hb : b ≠ 0 := fun e => hab e.symm
        simp only [if_true, if_neg hb, List.cons_append, List.nil_append]
        rw [cmpS_head hab, cmpS_head hab]
      · by_cases hb : b = 0
        · subst hb
          simp only [if_true, if_neg ha, List.cons_append, List.nil_append]
          rw [cmpS_head hab, cmpS_head hab]
        · simp only [if_neg ha, if_neg hb, List.cons_append, List.nil_append]
          rw [cmpS_head hab, cmpS_head hab]
where
  cmpI_neg' {a b : Int} (h : a < b) : cmpI a b = -1 := if_pos h
  cmpI_one' {a b : Int} (h : b < a) : cmpI a b = 1 := by unfold cmpI; rw [if_neg (by omega), if_pos h]
theorem good_cases {k n : Int} {s : List UInt8} {l : List Val} (h : Good (.mk k n s l)) :
    (k = 1 ∧ s = [] ∧ l = []) ∨ (k = 3 ∧ s = [] ∧ l = [] ∧ (n = 0 ∨ n = 1)) ∨ (k = 6 ∧ s = [] ∧ l = []) ∨ (k = 7 ∧ s = [] ∧ l = []) ∨ (k = 2 ∧ n = 0 ∧ l = []) := by
  obtain ⟨hm, h4, h5⟩ := h
  simp only [Val.kind] at h4 h5
  simp only [mayV] at hm
  split at hm
  · simp at hm; simp [*]
  · split at hm
    · simp at hm; simp [*]
    · split at hm
      · simp at hm; simp [*]
      · split at hm
        · simp at hm; simp [*]
        · split at hm
          · simp at hm; simp [*]
          · exfalso
            first | (cases hm; done) | (simp [h4, h5] at hm)
theorem kind_byte {k : Int} (h : 1 ≤ k ∧ k ≤ 7) : ((UInt8.ofNat (k % 256).toNat).toNat : Int) = k := by
  rw [ofNat_toNat (by omega)]; omega
theorem form_cmp {v w : Val} (hv : Good v) (hw : Good w) (iv : I64 v.n) (iw : I64 w.n) (hne : cmpV v w ≠ 0) (x y : List UInt8) : cmpS (formV v ++ x) (formV w ++ y) = cmpV v w := by
  obtain ⟨k, n, s, l⟩ := v
  obtain ⟨k', n', s', l'⟩ := w
  simp only [Val.n] at iv iw
  have cv := good_cases hv
  have cw := good_cases hw
  have hk : 1 ≤ k ∧ k ≤ 7 := by omega
  have hk' : 1 ≤ k' ∧ k' ≤ 7 := by omega
  unfold cmpV at hne ⊢
  simp only [formV, List.cons_append]
  by_cases hkk : k = k'
  · subst hkk
    rw [cmpI_self] at hne ⊢
    have o0 : ∀ b, orI 0 b = b := fun b => rfl
    rw [o0] at hne ⊢
    rw [cmpS_same]
    have h64 : ∀ (P : Prop), (n ≠ n' → P) → (n = n' → s = s' → l = l' → P) → (s = [] ∧ s' = [] ∧ l = [] ∧ l' = []) → P := fun P h1 h2 h3 => by
      by_cases e : n = n'
      · exact h2 e (by rw [h3.1, h3.2.1]) (by rw [h3.2.2.1, h3.2.2.2])
      · exact h1 e
    by_cases h167 : k = 1 ∨ k = 6 ∨ k = 7
    · rw [if_pos h167, if_pos h167]
      have hsl : s = [] ∧ s' = [] ∧ l = [] ∧ l' = [] := by
        refine ⟨?_, ?_, ?_, ?_⟩
        · rcases cv with h | h | h | h | h <;> first | exact h.2.1 | (exfalso; omega)
        · rcases cw with h | h | h | h | h <;> first | exact h.2.1 | (exfalso; omega)
        · rcases cv with h | h | h | h | h <;> first | exact h.2.2 | exact h.2.2.1 | (exfalso; omega)
        · rcases cw with h | h | h | h | h <;> first | exact h.2.2 | exact h.2.2.1 | (exfalso; omega)
      refine h64 _ (fun e => ?_) (fun e1 e2 e3 => ?_) hsl
      · have hn0 : cmpI n n' ≠ 0 := fun z => e (cmpI_zero.1 z)
        rw [orI_ne hn0]
        obtain ⟨a1, a2⟩ := iv
        obtain ⟨b1, b2⟩ := iw
        have p8 : (256 : Nat) ^ 8 = 18446744073709551616 := by decide
        rw [be_cmp 8 (ord64 n) (ord64 n') x y (by rw [p8]; unfold ord64; omega) (by rw [p8]; unfold ord64; omega) (by unfold ord64; omega)]
        unfold cmpI ord64
        by_cases h1 : n < n'
        · rw [if_pos h1, if_pos (by omega)]
        · rw [if_neg h1, if_neg (by omega), if_pos (by omega), if_pos (by omega)]
      · subst e1 e2 e3
        exfalso
        apply hne
        rw [orI_zero, orI_zero, cmpI_self, cmpS_self, cmpVs_zero]
        exact ⟨rfl, rfl, rfl⟩
    · rw [if_neg h167, if_neg h167]
      by_cases h3 : k = 3
      · rw [if_pos h3, if_pos h3]
        have hv3 : s = [] ∧ l = [] ∧ (n = 0 ∨ n = 1) := by rcases cv with h | h | h | h | h <;> first | exact h.2 | (exfalso; omega)
        have hw3 : s' = [] ∧ l' = [] ∧ (n' = 0 ∨ n' = 1) := by rcases cw with h | h | h | h | h <;> first | exact h.2 | (exfalso; omega)
        by_cases e : n = n'
        · exfalso
          apply hne
          rw [orI_zero, orI_zero, cmpI_zero, cmpS_zero, cmpVs_zero, hv3.1, hw3.1, hv3.2.1, hw3.2.1]
          exact ⟨e, rfl, rfl⟩
        · have hn0 : cmpI n n' ≠ 0 := fun z => e (cmpI_zero.1 z)
          rw [orI_ne hn0]
          rcases hv3.2.2 with rfl | rfl <;> rcases hw3.2.2 with rfl | rfl
          · exact absurd rfl e
          · rfl
          · rfl
          · exact absurd rfl e
      · rw [if_neg h3, if_neg h3]
        have hv2 : n = 0 ∧ l = [] := by rcases cv with h | h | h | h | h <;> first | exact h.2 | (exfalso; omega)
        have hw2 : n' = 0 ∧ l' = [] := by rcases cw with h | h | h | h | h <;> first | exact h.2 | (exfalso; omega)
        rw [hv2.1, hw2.1, hv2.2, hw2.2, cmpI_self, o0] at hne ⊢
        have e0 : cmpVs [] [] = 0 := by simp [cmpVs]
        rw [e0] at hne ⊢
        have hs : s ≠ s' := fun e => hne (by rw [e, cmpS_self]; rfl)
        have hs0 : cmpS s s' ≠ 0 := fun z => hs (cmpS_zero.1 z)
        rw [orI_ne hs0]
        simp only [List.append_assoc, List.cons_append, List.nil_append]
        exact esc_cmp s s' x y hs
  · have hkc : cmpI k k' ≠ 0 := fun z => hkk (cmpI_zero.1 z)
    rw [orI_ne hkc]
    have hb : UInt8.ofNat (k % 256).toNat ≠ UInt8.ofNat (k' % 256).toNat := fun e => hkk (by rw [← kind_byte hk, ← kind_byte hk', e])
    rw [cmpS_head hb, kind_byte hk, kind_byte hk']
theorem form_ne (v : Val) : formV v ≠ [] := by obtain ⟨k, n, s, l⟩ := v; simp [formV]
end Go.Proofs.YtfdebgebnkbagaaDoor


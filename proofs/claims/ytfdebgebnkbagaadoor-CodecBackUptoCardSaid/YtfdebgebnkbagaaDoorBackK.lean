/- The values of a key are as they were; what values are told of has that key; over plain values. -/
import Derived.Test.YtfdebgebnkbagaaDoorBackP
import Derived.Test.YtfdebgebnkbagaaDoorCodO
set_option linter.unusedVariables false
set_option linter.unusedSimpArgs false
namespace Go.Proofs.YtfdebgebnkbagaaDoor
open Go Go.AM Go.RowKit
theorem foldl8 : ∀ (l : List UInt8) (u : Nat), l.foldl (fun u c => u * 256 + c.toNat) u = u * 256 ^ l.length + un8 l
  | [], u => by simp [un8]
  | c :: l, u => by
    have h1 := foldl8 l (u * 256 + c.toNat)
    have h2 := foldl8 l (0 * 256 + c.toNat)
    unfold un8
    simp only [List.foldl_cons, List.length_cons, Nat.pow_succ]
    rw [h1, h2, Nat.add_mul, Nat.add_mul, Nat.mul_assoc, Nat.mul_comm 256]
    omega
theorem un8_cons (c : UInt8) (l : List UInt8) : un8 (c :: l) = c.toNat * 256 ^ l.length + un8 l := by
  have := foldl8 l (0 * 256 + c.toNat)
  rw [Nat.zero_mul, Nat.zero_add] at this
  rw [← this]
  simp [un8]
theorem un8_be : ∀ j m, un8 (be j m) = m % 256 ^ j
  | 0, m => by simp [be, un8, Nat.mod_one]
  | j + 1, m => by
    rw [be, un8_cons, be_len, un8_be j m, Nat.mod_pow_succ, UInt8.toNat_ofNat']
    rw [Nat.mul_comm, Nat.add_comm]
theorem be_un8 : ∀ l : List UInt8, be l.length (un8 l) = l
  | [] => rfl
  | c :: l => by
    have hu := un8_lt l
    have hp : 0 < 256 ^ l.length := by omega
    rw [un8_cons, List.length_cons, be]
    have h1 : (c.toNat * 256 ^ l.length + un8 l) / 256 ^ l.length = c.toNat := by
      rw [Nat.add_comm, Nat.add_mul_div_right _ _ hp, Nat.div_eq_of_lt hu, Nat.zero_add]
    have h2 : (c.toNat * 256 ^ l.length + un8 l) % 256 ^ l.length = un8 l := by
      rw [Nat.add_comm, Nat.add_mul_mod_self_right, Nat.mod_eq_of_lt hu]
    rw [h1, be_mod, h2, be_un8 l, ofNat_u8 rfl]
theorem strR_esc : ∀ (s acc : List UInt8) (n : Nat) (x : List UInt8), strR (esc s ++ 0 :: 1 :: x) acc n = made (.mk 2 0 (acc ++ s) []) (n + (esc s).length + 2)
  | [], acc, n, x => by simp [esc, strR]
  | b :: s, acc, n, x => by
    rw [esc_cons]
    by_cases h : b = 0
    · subst h
      have := strR_esc s (acc ++ [0]) (n + 2) x
      simp only [if_true, List.cons_append, List.nil_append, strR]
      rw [if_neg (by decide), this]
      simp
      congr 1
      omega
    · have := strR_esc s (acc ++ [b]) (n + 1) x
      simp only [if_neg h, List.cons_append, List.nil_append, List.append_assoc]
      obtain ⟨c, r, hcr⟩ : ∃ c r, esc s ++ 0 :: 1 :: x = c :: r := by
        cases he : esc s with
        | nil => exact ⟨_, _, rfl⟩
        | cons a l => exact ⟨_, _, rfl⟩
      rw [hcr] at this ⊢
      simp only [strR]
      rw [if_neg h, this]
      simp
      congr 1
      omega
theorem made_good {v : Val} (h : Good v) (n : Nat) : made v n = .ok v n := by simp [made, h.1]
theorem take_key {v : Val} (h : Good v) (hi : I64 v.n) (x : List UInt8) : takeR (formV v ++ x) = .ok v (formV v).length := by
  obtain ⟨k, n, s, l⟩ := v
  simp only [Val.n] at hi
  unfold I64 at hi
  have p256 : (256 : Nat) ^ 8 = 18446744073709551616 := by decide
  rcases good_cases h with ⟨rfl, rfl, rfl⟩ | ⟨rfl, rfl, rfl, hn⟩ | ⟨rfl, rfl, rfl⟩ | ⟨rfl, rfl, rfl⟩ | ⟨rfl, rfl, rfl⟩
  · have e : formV (.mk 1 n [] []) = 1 :: be 8 (ord64 n) := by simp [formV]
    have ht : ((be 8 (ord64 n) ++ x).take 8) = be 8 (ord64 n) := by rw [List.take_append_of_le_length (by rw [be_len]; omega), List.take_of_length_le (by rw [be_len]; omega)]
    have hu : unord (un8 (be 8 (ord64 n))) = n := by rw [un8_be, p256]; unfold unord ord64; omega
    rw [e]
    simp only [List.cons_append, takeR]
    rw [if_pos (by decide), if_neg (by simp [be_len]), ht, hu]
    simp only [List.length_cons, be_len]
    exact made_good h 9
  · have e : formV (.mk 3 n [] []) = [3, UInt8.ofNat (n % 256).toNat] := by simp [formV]
    rw [e]
    rcases hn with rfl | rfl <;> rfl
  · have e : formV (.mk 6 n [] []) = 6 :: be 8 (ord64 n) := by simp [formV]
    have ht : ((be 8 (ord64 n) ++ x).take 8) = be 8 (ord64 n) := by rw [List.take_append_of_le_length (by rw [be_len]; omega), List.take_of_length_le (by rw [be_len]; omega)]
    have hu : unord (un8 (be 8 (ord64 n))) = n := by rw [un8_be, p256]; unfold unord ord64; omega
    rw [e]
    simp only [List.cons_append, takeR]
    rw [if_pos (by decide), if_neg (by simp [be_len]), ht, hu]
    simp only [List.length_cons, be_len]
    exact made_good h 9
  · have e : formV (.mk 7 n [] []) = 7 :: be 8 (ord64 n) := by simp [formV]
    have ht : ((be 8 (ord64 n) ++ x).take 8) = be 8 (ord64 n) := by rw [List.take_append_of_le_length (by rw [be_len]; omega), List.take_of_length_le (by rw [be_len]; omega)]
    have hu : unord (un8 (be 8 (ord64 n))) = n := by rw [un8_be, p256]; unfold unord ord64; omega
    rw [e]
    simp only [List.cons_append, takeR]
    rw [if_pos (by decide), if_neg (by simp [be_len]), ht, hu]
    simp only [List.length_cons, be_len]
    exact made_good h 9
  · have e : formV (.mk 2 0 s []) = 2 :: (esc s ++ [0, 1]) := by simp [formV]
    rw [e]
    simp only [List.cons_append, List.append_assoc, List.nil_append, takeR]
    rw [if_neg (by decide), if_neg (by decide), if_pos trivial, strR_esc, List.nil_append]
    simp only [List.length_cons, List.length_append, List.length_nil]
    rw [made_good h]
    congr 1
    omega
theorem vals_key : ∀ (l : List Val) (m : Nat), (∀ v ∈ l, Good v ∧ I64 v.n) → (l.flatMap formV).length ≤ m → valsR m (l.flatMap formV) = .ok l
  | [], 0, _, _ => rfl
  | [], m + 1, _, _ => rfl
  | v :: l, m, h, hm => by
    obtain ⟨h1, h2⟩ := h v (by simp)
    have ht := take_key h1 h2 (l.flatMap formV)
    have hne := form_ne v
    rw [List.flatMap_cons] at hm ⊢
    obtain ⟨c, r, hcr⟩ : ∃ c r, formV v ++ l.flatMap formV = c :: r := by
      cases hf : formV v with
      | nil => exact absurd hf hne
      | cons a t => exact ⟨_, _, rfl⟩
    have hlv : (formV v).length ≠ 0 := fun e => hne (List.length_eq_zero_iff.1 e)
    rw [List.length_append] at hm
    cases m with
    | zero => omega
    | succ m =>
      have hd : (c :: r).drop (formV v).length = l.flatMap formV := by rw [← hcr, List.drop_left]
      rw [hcr] at ht ⊢
      simp only [valsR, ht, hd]
      rw [vals_key l m (fun w hw => h w (by simp [hw])) (by omega)]
      rfl
theorem strR_ok' : ∀ (m : Nat) (r acc : List UInt8) (k : Nat) (v : Val) (n : Nat), r.length ≤ m → strR r acc k = .ok v n → ∃ s, v = .mk 2 0 (acc ++ s) [] ∧ mayV 8 v = true ∧ k ≤ n ∧ esc s ++ [0, 1] = r.take (n - k)
  | _, [], acc, k, v, n, hm, h => by cases h
  | _, [b], acc, k, v, n, hm, h => by
    simp only [strR] at h
    split at h <;> cases h
  | 0, b :: c :: r, acc, k, v, n, hm, h => by simp at hm
  | m + 1, b :: c :: r, acc, k, v, n, hm, h => by
    simp only [strR] at h
    split at h
    · rename_i hb
      subst hb
      split at h
      · rename_i hc
        subst hc
        unfold made at h
        split at h
        · rename_i hmay
          injection h with h1 h2
          subst h1 h2
          exact ⟨[], by simp, hmay, by omega, by simp [esc, show k + 2 - k = 2 by omega]⟩
        · cases h
      · split at h
        · rename_i hc
          subst hc
          obtain ⟨s, i1, i2, i3, i4⟩ := strR_ok' m r (acc ++ [0]) (k + 2) v n (by simp at hm; omega) h
          refine ⟨0 :: s, by rw [i1]; simp, i2, by omega, ?_⟩
          rw [esc_cons, if_pos rfl, List.append_assoc, i4, show n - k = (n - (k + 2)) + 2 by omega]
          rfl
        · cases h
    · rename_i hb
      obtain ⟨s, i1, i2, i3, i4⟩ := strR_ok' m (c :: r) (acc ++ [b]) (k + 1) v n (by simp at hm ⊢; omega) h
      refine ⟨b :: s, by rw [i1]; simp, i2, by omega, ?_⟩
      rw [esc_cons, if_neg hb, List.append_assoc, i4, show n - k = (n - (k + 1)) + 1 by omega]
      rfl
theorem made_ok' {v w : Val} {n m : Nat} (h : made v n = .ok w m) : w = v ∧ m = n ∧ mayV 8 v = true := by
  unfold made at h
  split at h
  · rename_i hm
    injection h with h1 h2
    exact ⟨h1.symm, h2.symm, hm⟩
  · cases h
theorem key_take {b : List UInt8} {v : Val} {n : Nat} (h : takeR b = .ok v n) : mayV 8 v = true ∧ ¬ (v.kind = 4 ∨ v.kind = 5) ∧ formV v = b.take n := by
  cases b with
  | nil => cases h
  | cons c r =>
    simp only [takeR] at h
    split at h
    · rename_i hc
      split at h
      · cases h
      · rename_i h8
        obtain ⟨rfl, rfl, hm⟩ := made_ok' h
        have hl8 : (r.take 8).length = 8 := by simp; omega
        have hu := un8_lt (r.take 8)
        have p256 : (256 : Nat) ^ 8 = 18446744073709551616 := by decide
        rw [hl8, p256] at hu
        have ho : ord64 (unord (un8 (r.take 8))) = un8 (r.take 8) := by unfold ord64 unord; omega
        have hb := be_un8 (r.take 8)
        rw [hl8] at hb
        refine ⟨hm, ?_, ?_⟩
        · show ¬ ((c.toNat : Int) = 4 ∨ (c.toNat : Int) = 5)
          rcases hc with rfl | rfl | rfl <;> decide
        · simp only [formV]
          rw [if_pos (by rcases hc with rfl | rfl | rfl <;> decide), ho, hb]
          rcases hc with rfl | rfl | rfl <;> rfl
    · split at h
      · rename_i hc
        subst hc
        cases r with
        | nil => cases h
        | cons d r =>
          obtain ⟨rfl, rfl, hm⟩ := made_ok' h
          have hd := d.toNat_lt
          have hdd : UInt8.ofNat (((d.toNat : Nat) : Int) % 256).toNat = d := ofNat_u8 (by omega)
          refine ⟨hm, by simp [Val.kind], ?_⟩
          simp [formV, hdd]
      · split at h
        · rename_i hc
          subst hc
          obtain ⟨s, rfl, i2, i3, i4⟩ := strR_ok' r.length r [] 1 v n (Nat.le_refl _) h
          refine ⟨i2, by simp [Val.kind], ?_⟩
          have e : formV (.mk 2 0 ([] ++ s) []) = 2 :: (esc s ++ [0, 1]) := by simp [formV]
          rw [e, i4]
          have : n = (n - 1) + 1 := by omega
          conv => rhs; rw [this, List.take_succ_cons]
        · cases h
theorem key_vals : ∀ (m : Nat) (b : List UInt8) (l : List Val), b.length ≤ m → b.length ≤ 1073741824 → valsR m b = .ok l → keyR l = .ok b
  | 0, b, l, hm, hb, h => by
    have : b = [] := List.length_eq_zero_iff.1 (by omega)
    subst this
    injection h with h
    subst h
    rfl
  | m + 1, [], l, hm, hb, h => by
    injection h with h
    subst h
    rfl
  | m + 1, c :: r, l, hm, hb, h => by
    simp only [valsR] at h
    cases ht : takeR (c :: r) with
    | err e => rw [ht] at h; cases h
    | ok v n =>
      rw [ht] at h
      obtain ⟨h1, h2, _⟩ := take_ok ht hb
      obtain ⟨g1, g2, g3⟩ := key_take ht
      cases hr : valsR m ((c :: r).drop n) with
      | error e => simp only [hr] at h; cases h
      | ok l' =>
        simp only [hr] at h
        injection h with h
        subst h
        have ih := key_vals m ((c :: r).drop n) l' (by simp only [List.length_drop]; simp only [List.length_cons] at *; omega) (by simp only [List.length_drop]; omega) hr
        simp only [keyR]
        rw [if_pos g1, if_neg g2, ih, g3]
        simp [Except.map]
end Go.Proofs.YtfdebgebnkbagaaDoor

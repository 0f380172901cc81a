/- Values are read as they were put; what is read has those bytes; over plain values. -/
import Derived.Test.YtfdebgebnkbagaaDoorOrdP
import Derived.Test.YtfdebgebnkbagaaDoorReadC
set_option linter.unusedVariables false
set_option linter.unusedSimpArgs false
namespace Go.Proofs.YtfdebgebnkbagaaDoor
open Go Go.AM Go.RowKit
theorem ofNat_u8 {c : UInt8} {u : Nat} (h : c.toNat = u) : UInt8.ofNat u = c := by subst h; simp
theorem u8_nat {u : Nat} (h : u < 256) : (UInt8.ofNat u).toNat = u := by simp; omega
theorem dec_put : ∀ (n i u : Nat) (b : List UInt8), n + i = 9 → (0 < i → u ≠ 0) → u < 2 * 128 ^ n → decN (n + 1) i (putL n u ++ b) = .ok u (putL n u).length
  | 0, i, u, b, hi, h0, hu => by
    have hi9 : i = 9 := by omega
    subst hi9
    simp only [Nat.pow_zero, Nat.mul_one] at hu
    have hc := u8_nat (u := u) (by omega)
    have h0' := h0 (by omega)
    simp only [putL, List.cons_append, List.nil_append, decN, hc]
    rw [if_neg (by omega), if_neg (by omega)]
    rfl
  | n + 1, i, u, b, hi, h0, hu => by
    simp only [putL]
    by_cases h : u < 128
    · have hc := u8_nat (u := u) (by omega)
      rw [if_pos h]
      simp only [List.cons_append, List.nil_append, decN, hc]
      rw [if_neg (by omega), if_neg (by omega)]
      rfl
    · have hc := u8_nat (u := u % 128 + 128) (by omega)
      rw [if_neg h]
      simp only [List.cons_append, decN, hc]
      rw [if_pos (by omega), dec_put n (i + 1) (u / 128) b (by omega) (fun _ => by omega) (by rw [Nat.pow_succ] at hu; omega)]
      simp only [NT.up, List.length_cons, NT.ok.injEq, and_true]
      omega
theorem dec_put9 {u : Nat} (hu : u < 18446744073709551616) (b : List UInt8) : decN 10 0 (putL 9 u ++ b) = .ok u (putL 9 u).length :=
  dec_put 9 0 u b rfl (fun h => by omega) (by
    have h9 : (128 : Nat) ^ 9 = 9223372036854775808 := by decide
    rw [h9]; omega)
theorem put_dec : ∀ (n i u k : Nat) (b : List UInt8), n + i = 9 → decN (n + 1) i b = .ok u k → putL n u = b.take k ∧ (0 < i → u ≠ 0)
  | n, i, u, k, [], hi, h => by cases h
  | 0, i, u, k, c :: r, hi, h => by
    simp only [decN] at h
    split at h
    · cases h
    · split at h
      · cases h
      · injection h with h1 h2
        subst h1 h2
        exact ⟨by simp [putL], by omega⟩
  | n + 1, i, u, k, c :: r, hi, h => by
    have hc := c.toNat_lt
    rw [decN] at h
    split at h
    · cases hd : decN (n + 1) (i + 1) r with
      | ends => rw [hd] at h; cases h
      | form => rw [hd] at h; cases h
      | ok u' k' =>
        rw [hd] at h
        injection h with h1 h2
        obtain ⟨i1, i2⟩ := put_dec n (i + 1) u' k' r (by omega) hd
        have i2' := i2 (by omega)
        refine ⟨?_, by omega⟩
        subst h1 h2
        simp only [putL]
        rw [if_neg (by omega)]
        have e1 : (c.toNat % 128 + 128 * u') % 128 + 128 = c.toNat := by omega
        have e2 : (c.toNat % 128 + 128 * u') / 128 = u' := by omega
        rw [e1, e2, i1, ofNat_u8 rfl]
        rfl
    · split at h
      · cases h
      · injection h with h1 h2
        subst h1 h2
        refine ⟨?_, by omega⟩
        simp only [putL]
        rw [if_pos (by omega), ofNat_u8 rfl]
        rfl
theorem put_dec9 {u k : Nat} {b : List UInt8} (h : decN 10 0 b = .ok u k) : putL 9 u = b.take k := (put_dec 9 0 u k b rfl h).1
theorem zag_zig {n : Int} (h : I64 n) : zagN (zigN n) = n := by
  unfold I64 at h
  unfold zagN zigN
  split <;> split <;> omega
theorem zig_zag {u : Nat} (h : u < 18446744073709551616) : zigN (zagN u) = u := by
  unfold zagN zigN
  split <;> split <;> omega
theorem zig_u64 {n : Int} (h : I64 n) : zigN n < 18446744073709551616 := by
  unfold I64 at h
  unfold zigN
  split <;> omega
theorem sgn_put {n : Int} (h1 : 1 ≤ n) (h2 : n ≤ 281474976710656) : sgnN (n % 18446744073709551616).toNat = n := by
  unfold sgnN
  split <;> omega
theorem put_sgn {u : Nat} (h : u < 18446744073709551616) : (sgnN u % 18446744073709551616).toNat = u := by
  unfold sgnN
  split <;> omega
theorem may_cases {f : Nat} {k n : Int} {s : List UInt8} {l : List Val} (h : mayV (f + 1) (.mk k n s l) = true) :
    (k = 1 ∧ s = [] ∧ l = []) ∨ (k = 3 ∧ s = [] ∧ l = [] ∧ (n = 0 ∨ n = 1)) ∨ ((k = 6 ∨ k = 7) ∧ s = [] ∧ l = [] ∧ 1 ≤ n ∧ n ≤ 281474976710656) ∨ (k = 2 ∧ n = 0 ∧ l = [] ∧ s.length ≤ 128) ∨ ((k = 4 ∧ l.length ≤ 256 ∨ k = 5 ∧ l.length ≤ 512) ∧ n = 0 ∧ s = [] ∧ ∀ v ∈ l, mayV f v = true) := by
  simp only [mayV] at h
  split at h
  · simp at h; simp [*]
  · split at h
    · simp at h; simp [*]
    · split at h
      · simp at h; simp [*]
      · split at h
        · simp at h; simp [*]
        · split at h
          · simp at h; rename_i h2; refine .inr (.inr (.inr (.inl ⟨h2, h.1.1, h.1.2, by omega⟩)))
          · split at h
            · simp at h; rename_i h4; exact .inr (.inr (.inr (.inr ⟨.inl ⟨h4, by omega⟩, h.1.1.1, h.1.1.2, h.2⟩)))
            · split at h
              · simp at h; rename_i h5; exact .inr (.inr (.inr (.inr ⟨.inr ⟨h5, by omega⟩, h.1.1.1.1.1, h.1.1.1.1.2, h.1.2⟩)))
              · cases h
theorem read_putVs {rd : List UInt8 → TR} : ∀ (l : List Val) (b : List UInt8) (n : Nat), (∀ v ∈ l, ∀ b, rd (putV v ++ b) = .ok v (putV v).length) → readVs rd l.length (putVs l ++ b) n = .ok (l, n + (putVs l).length)
  | [], b, n, h => rfl
  | v :: l, b, n, h => by
    simp only [List.length_cons, readVs, putVs, List.append_assoc]
    rw [h v (by simp)]
    simp only [List.drop_left]
    rw [read_putVs l b _ (fun w hw => h w (by simp [hw]))]
    simp [Except.map, Nat.add_assoc]
theorem read_putV : ∀ (f : Nat) (v : Val), (∃ cs, VC v cs) → mayV f v = true → ∀ b, readV f (putV v ++ b) = .ok v (putV v).length
  | 0, v, _, h, b => by cases h
  | f + 1, .mk k n s l, ⟨cs, hv⟩, h, b => by
    obtain ⟨hk, hn, hs, p, rfl, hp⟩ := hv.open
    have hz := zig_u64 hn
    rcases may_cases h with ⟨rfl, rfl, rfl⟩ | ⟨rfl, rfl, rfl, hn'⟩ | ⟨hk', rfl, rfl, h1, h2⟩ | ⟨rfl, rfl, rfl, h1⟩ | ⟨hk', rfl, rfl, hl⟩
    · have e : putV (.mk 1 n [] []) = 1 :: putL 9 (zigN n) := by simp [putV]
      rw [e]
      simp only [List.cons_append, readV]
      rw [if_neg (by decide), if_neg (by decide), dec_put9 hz]
      simp only [restV]
      rw [if_pos (by decide), zag_zig hn]
      rfl
    · have e : putV (.mk 3 n [] []) = [3, UInt8.ofNat (n % 256).toNat] := by simp [putV]
      rw [e]
      simp only [List.cons_append, List.nil_append, readV]
      rw [if_neg (by decide), if_pos (by decide)]
      rcases hn' with rfl | rfl <;> rfl
    · have e : putV (.mk k n [] []) = UInt8.ofNat (k % 256).toNat :: putL 9 (n % 18446744073709551616).toNat := by
        simp only [putV]
        rw [if_neg (by omega), if_pos (by omega)]
      rw [e]
      simp only [List.cons_append, readV]
      have hkt : (UInt8.ofNat (k % 256).toNat).toNat = k.toNat := by rcases hk' with rfl | rfl <;> rfl
      rw [hkt, if_neg (by omega), if_neg (by omega), dec_put9 (by omega)]
      simp only [restV]
      rw [if_neg (by omega), if_pos (by omega), sgn_put h1 h2]
      have e3 : ((k.toNat : Nat) : Int) = k := by omega
      rw [e3]
      rfl
    · have e : putV (.mk 2 0 s []) = 2 :: (putL 9 s.length ++ s) := by simp [putV]
      rw [e]
      simp only [List.cons_append, List.append_assoc, readV]
      rw [if_neg (by decide), if_neg (by decide), dec_put9 (by omega)]
      simp only [restV, List.drop_left]
      rw [if_neg (by decide), if_neg (by decide), if_pos (by decide), if_neg (by omega), if_neg (by simp)]
      simp
      omega
    · have e : putV (.mk k 0 [] l) = UInt8.ofNat (k % 256).toNat :: (putL 9 l.length ++ putVs l) := by
        simp only [putV]
        rw [if_neg (by omega), if_neg (by omega), if_neg (by omega), if_neg (by omega)]
      rw [e]
      simp only [List.cons_append, List.append_assoc, readV]
      have hkt : (UInt8.ofNat (k % 256).toNat).toNat = k.toNat := by rcases hk' with ⟨rfl, _⟩ | ⟨rfl, _⟩ <;> rfl
      have hl5 : l.length ≤ 512 := by omega
      rw [hkt, if_neg (by omega), if_neg (by omega), dec_put9 (by omega)]
      simp only [restV, List.drop_left]
      rw [if_neg (by omega), if_neg (by omega), if_neg (by omega), if_neg (by omega)]
      rw [read_putVs l b _ (fun v hv b => read_putV f v (by
        obtain ⟨j, hj⟩ := List.getElem?_of_mem hv
        obtain ⟨cs, _, h⟩ := hp.at hj
        exact ⟨cs, h⟩) (hl v hv) b)]
      have e3 : ((k.toNat : Nat) : Int) = k := by omega
      simp only [e3, List.length_cons, List.length_append]
      congr 1
      omega
theorem read_put {v : Val} {cs : List PV} (hv : VC v cs) (h : mayV 8 v = true) (b : List UInt8) : readT (putV v ++ b) = .ok v (putV v).length := by
  unfold readT
  rw [read_putV 8 v ⟨cs, hv⟩ h b]
  simp [made, h]
theorem putVs_read {rd : List UInt8 → TR} (h : ∀ b v n, rd b = .ok v n → putV v = b.take n) : ∀ (m : Nat) (b : List UInt8) (n k : Nat) (l : List Val), readVs rd m b n = .ok (l, k) → n ≤ k ∧ l.length = m ∧ putVs l = b.take (k - n)
  | 0, b, n, k, l, hr => by
    injection hr with hr
    injection hr with h1 h2
    subst h1 h2
    simp [putVs]
  | m + 1, b, n, k, l, hr => by
    simp only [readVs] at hr
    cases hb : rd b with
    | err e => rw [hb] at hr; cases hr
    | ok v j =>
      rw [hb] at hr
      cases hq : readVs rd m (b.drop j) (n + j) with
      | error e => simp only [hq] at hr; cases hr
      | ok r =>
        simp only [hq] at hr
        injection hr with hr
        injection hr with h1 h2
        obtain ⟨l', k'⟩ := r
        simp only at h1 h2
        subst h1 h2
        obtain ⟨i1, i2, i3⟩ := putVs_read h m (b.drop j) (n + j) k' l' hq
        refine ⟨by omega, by simp [i2], ?_⟩
        simp only [putVs]
        rw [i3, h b v j hb]
        have : k' - n = j + (k' - (n + j)) := by omega
        rw [this, List.take_add]
theorem putV_read : ∀ (f : Nat) (b : List UInt8) (v : Val) (n : Nat), readV f b = .ok v n → putV v = b.take n
  | 0, [], v, n, h => by cases h
  | 0, _ :: _, v, n, h => by cases h
  | f + 1, [], v, n, h => by cases h
  | f + 1, c :: r, v, n, h => by
    have hc := c.toNat_lt
    simp only [readV] at h
    split at h
    · cases h
    · rename_i hk
      have hcc : UInt8.ofNat (((c.toNat : Nat) : Int) % 256).toNat = c := ofNat_u8 (by omega)
      split at h
      · rename_i h3
        cases r with
        | nil => cases h
        | cons d r =>
          have hd := d.toNat_lt
          injection h with h1 h2
          subst h1 h2
          have e3 : c = 3 := by apply UInt8.toNat_inj.1; rw [h3]; rfl
          subst e3
          have hdd : UInt8.ofNat (((d.toNat : Nat) : Int) % 256).toNat = d := ofNat_u8 (by omega)
          simp [putV, hdd]
      · rename_i h3
        cases hd : decN 10 0 r with
        | ends => rw [hd] at h; cases h
        | form => rw [hd] at h; cases h
        | ok u k =>
          rw [hd] at h
          have hu := decN_u64 hd
          have hp := put_dec9 hd
          have hkl := decN_le _ _ _ _ _ hd
          simp only [restV] at h
          split at h
          · rename_i h1
            injection h with h2 h4
            subst h2 h4
            have e1 : c = 1 := by apply UInt8.toNat_inj.1; rw [show c.toNat = 1 by omega]; rfl
            subst e1
            simp [putV, zig_zag hu, hp]
          · split at h
            · rename_i h1 h67
              injection h with h2 h4
              subst h2 h4
              simp only [putV]
              rw [if_neg (by omega), if_pos (by omega), hcc, put_sgn hu, hp]
              simp
            · split at h
              · rename_i h1 h67 h2
                split at h
                · cases h
                · split at h
                  · cases h
                  · rename_i hl
                    injection h with h4 h5
                    subst h4 h5
                    have e1 : c = 2 := by apply UInt8.toNat_inj.1; rw [h2]; rfl
                    subst e1
                    have hlu : ((r.drop k).take u).length = u := by rw [List.length_take]; omega
                    have e : putV (.mk 2 0 ((r.drop k).take u) []) = 2 :: (putL 9 ((r.drop k).take u).length ++ (r.drop k).take u) := by simp [putV]
                    rw [e, hlu, hp, ← List.take_add]
                    have : k + 1 + u = (k + u) + 1 := by omega
                    rw [this, List.take_succ_cons]
              · rename_i h1 h67 h2
                split at h
                · cases h
                · cases hq : readVs (readV f) u (r.drop k) (k + 1) with
                  | error e => rw [hq] at h; cases h
                  | ok q =>
                    obtain ⟨l, m⟩ := q
                    rw [hq] at h
                    injection h with h4 h5
                    simp only at h4 h5
                    subst h4 h5
                    obtain ⟨i1, i2, i3⟩ := putVs_read (putV_read f) u (r.drop k) (k + 1) m l hq
                    simp only [putV]
                    rw [if_neg (by omega), if_neg (by omega), if_neg (by omega), if_neg (by omega), hcc, i2, hp, i3, ← List.take_add]
                    have : m = (k + (m - (k + 1))) + 1 := by omega
                    conv => rhs; rw [this, List.take_succ_cons]
theorem put_read {b : List UInt8} {v : Val} {n : Nat} (h : readT b = .ok v n) : putV v = b.take n := by
  unfold readT at h
  split at h
  · cases h
  · rename_i w m hr
    unfold made at h
    split at h
    · injection h with h1 h2
      subst h1 h2
      exact putV_read 8 b w m hr
    · cases h
end Go.Proofs.YtfdebgebnkbagaaDoor

/- num.Take: a number out of its bytes. -/
import Derived.Test.YthoknkogdldgcaaDoorPut
import Derived.Test.YthoknkogdldgcaaDoorAmZ
set_option linter.unusedVariables false
set_option linter.unusedSimpArgs false
namespace Go.Proofs.YthoknkogdldgcaaDoor
open Go Go.AM Go.RowKit
inductive NT where
  | ends
  | form
  | ok (u n : Nat)
def NT.up (c : Nat) : NT → NT
  | .ok u n => .ok (c + 128 * u) (n + 1)
  | t => t
def NT.at (u i : Nat) : NT → NT
  | .ok v n => .ok (u + 128 ^ i * v) (i + n)
  | t => t
theorem NT.at_up (u i c : Nat) (t : NT) : NT.at u i (NT.up c t) = NT.at (u + 128 ^ i * c) (i + 1) t := by
  cases t with
  | ends => rfl
  | form => rfl
  | ok v n =>
    simp only [NT.at, NT.up, Nat.pow_succ, Nat.mul_add, Nat.mul_assoc, NT.ok.injEq]
    exact ⟨by omega, by omega⟩
def decN : Nat → Nat → List UInt8 → NT
  | 0, _, _ => .form
  | _ + 1, _, [] => .ends
  | m + 1, i, c :: r => if 127 < c.toNat then NT.up (c.toNat % 128) (decN m (i + 1) r) else if (0 < i ∧ c.toNat = 0) ∨ (i = 9 ∧ 1 < c.toNat) then .form else .ok c.toNat 1
def ntPV : NT → PV
  | .ends => .tuple [.int .u64 0, .int .i64 0, .int .i64 11]
  | .form => .tuple [.int .u64 0, .int .i64 0, .int .i64 12]
  | .ok u n => .tuple [.int .u64 u, .int .i64 n, .int .i64 0]
def ntP (t : NT) : EX → EC → St → Prop := fun x e' st' => st' = emptySt ∧ ((x = .exit 0 ∧ t = .form ∧ e' = .nil) ∨ (x = .ret ∧ ∃ u n e : Int, ntPV t = .tuple [.int .u64 u, .int .i64 n, .int .i64 e] ∧ e' = .put 2 (.int .u64 u) (.put 3 (.int .i64 n) (.put 4 (.int .i64 e) .nil))))
theorem and127 (c : UInt8) : IntKind.u8.wrap ((BitVec.ofInt 8 (c.toNat : Int) &&& BitVec.ofInt 8 127).toNat : Int) = ((c.toNat % 128 : Nat) : Int) := by
  have h2 : ∀ b : BitVec 8, (b &&& 127#8).toNat = b.toNat % 128 := by decide
  have h3 : BitVec.ofInt 8 (c.toNat : Int) = BitVec.ofNat 8 c.toNat := by rw [BitVec.ofInt_natCast]
  have h4 : BitVec.ofInt 8 127 = 127#8 := rfl
  have hc := c.toNat_lt
  rw [h3, h4, h2, wrap_u8, BitVec.toNat_ofNat]
  omega
theorem pow27 (i : Nat) : 2 ^ (7 * i) = 128 ^ i := by rw [Nat.pow_mul]
theorem or_at {u c i : Nat} (hi : i ≤ 9) (hc : c < 128) : ∃ u' : Nat, IntKind.u64.wrap ((BitVec.ofInt 64 (u : Int) ||| BitVec.ofInt 64 (IntKind.u64.wrap ((c : Int) * 2 ^ (min ((7 * i : Nat) : Int).toNat IntKind.u64.bits)))).toNat : Int) = (u' : Int) ∧ (u < 128 ^ i → i ≤ 8 ∨ c ≤ 1 → u' = u + 128 ^ i * c) := by
  have hm : min ((7 * i : Nat) : Int).toNat IntKind.u64.bits = 7 * i := by
    show min ((7 * i : Nat) : Int).toNat 64 = 7 * i
    omega
  rw [hm]
  refine ⟨(BitVec.ofInt 64 (u : Int) ||| BitVec.ofInt 64 (IntKind.u64.wrap ((c : Int) * 2 ^ (7 * i)))).toNat, ?_, ?_⟩
  · rw [wrap_u64]
    have := (BitVec.ofInt 64 (u : Int) ||| BitVec.ofInt 64 (IntKind.u64.wrap ((c : Int) * 2 ^ (7 * i)))).isLt
    omega
  · intro hu hic
    have hcm : ((c : Int) * 2 ^ (7 * i)) = ((c * 128 ^ i : Nat) : Int) := by rw [← pow27]; push_cast; rfl
    have hle : 128 ^ i ≤ 128 ^ 9 := Nat.pow_le_pow_right (by omega) hi
    have h9 : (128 : Nat) ^ 9 = 9223372036854775808 := by decide
    have h8 : (128 : Nat) ^ 8 = 72057594037927936 := by decide
    have hlt : c * 128 ^ i < 18446744073709551616 := by
      rcases hic with h | h
      · have : 128 ^ i ≤ 128 ^ 8 := Nat.pow_le_pow_right (by omega) h
        have : c * 128 ^ i ≤ 127 * 72057594037927936 := Nat.mul_le_mul (by omega) (by omega)
        omega
      · have : c * 128 ^ i ≤ 1 * 9223372036854775808 := Nat.mul_le_mul h (by omega)
        omega
    have hw : IntKind.u64.wrap ((c * 128 ^ i : Nat) : Int) = ((c * 128 ^ i : Nat) : Int) := by rw [wrap_u64]; omega
    rw [hcm, hw, BitVec.toNat_or, BitVec.ofInt_natCast, BitVec.ofInt_natCast, BitVec.toNat_ofNat, BitVec.toNat_ofNat, Nat.mod_eq_of_lt (by omega), Nat.mod_eq_of_lt hlt, ← pow27, Nat.or_comm, ← Nat.shiftLeft_eq]
    rw [← Nat.shiftLeft_add_eq_or_of_lt (by rw [pow27]; exact hu), Nat.shiftLeft_eq]
    rw [Nat.mul_comm c]
    omega
set_option maxHeartbeats 4000000 in
theorem ntake_loop (p : PV) (b0 : List UInt8) (hp : BV p b0) : ∀ (m i u : Nat) (rest pre : List UInt8) (e : EC), m + i = 10 → b0 = pre ++ rest → pre.length = i → (m ≠ 0 → u < 128 ^ i) → e.get 0 = some p → e.get 5 = some (.int .u64 u) → e.get 7 = some (.int .i64 i) →
    V T (PE (ntP (NT.at u i (decN m i rest)))) [.code (.loop lp_num_Take_0)] .normal e emptySt := by
  intro m
  have out : ∀ (t : NT) (fr : List Fr) (x : EX) (e' : EC), t = .form → adv 200 fr x = ([], .exit 0) → V T (PE (ntP t)) fr x e' emptySt := fun t fr x e' ht hadv =>
    V_less .nil less_nil (V_endP hadv ⟨rfl, .inl ⟨rfl, ht, rfl⟩⟩)
  have ret : ∀ (t : NT) (fr : List Fr) (x : EX) (e' : EC) (u n e : Int), ntPV t = .tuple [.int .u64 u, .int .i64 n, .int .i64 e] → adv 200 fr x = ([], .ret) → e'.get 2 = some (.int .u64 u) → e'.get 3 = some (.int .i64 n) → e'.get 4 = some (.int .i64 e) → V T (PE (ntP t)) fr x e' emptySt := fun t fr x e' u n e ht hadv g2 g3 g4 =>
    V_less (.put 2 _ (.put 3 _ (.put 4 _ .nil))) (less_put g2 (less_put g3 (less_put g4 less_nil))) (V_endP hadv ⟨rfl, .inr ⟨rfl, u, n, e, ht, rfl⟩⟩)
  induction m with
  | zero =>
    intro i u rest pre e hmi hb hi hu h0 h5 h7
    have hlt : ¬ ((i : Int) < 10) := by omega
    refine V_less (.put 0 p (.put 5 _ (.put 7 _ .nil))) (less_put h0 (less_put h5 (less_put h7 less_nil))) (V_unroll ?_)
    repeat' first | refine O_is (dec_not hlt) rfl ?_ | refine out _ _ _ _ rfl rfl | refine V_O rfl ?_ | refine O_step rfl ?_ | refine O_nil' ?_ | refine V_cT rfl rfl ?_ | refine V_cF rfl rfl ?_ | refine V_cEq rfl rfl ?_ | refine V_cNe rfl rfl ?_ | refine V_cB rfl rfl (fun _ => ?_) (fun _ => ?_) | refine O_gT' rfl ?_ | refine O_gU' rfl ?_ | refine O_gF' rfl rfl ?_ | refine O_gEq rfl ?_ | refine O_gNe rfl ?_ | refine O_gS rfl (fun _ => ?_) (fun _ => ?_) | refine V_fA rfl rfl ?_ | refine V_fAN rfl rfl ?_ | refine V_D rfl ?_ | refine D_step rfl ?_ | refine D_nil' ?_ | refine D_gT' rfl ?_ | refine D_gU' rfl ?_ | refine D_gF' rfl rfl ?_ | refine D_gS rfl (fun _ => ?_) (fun _ => ?_)
  | succ m ih =>
    intro i u rest pre e hmi hb hi hu h0 h5 h7
    have hlt : (i : Int) < 10 := by omega
    cases rest with
    | nil =>
      have heq : (i : Int) = (b0.length : Int) := by subst hb; simp; omega
      refine V_less (.put 0 p (.put 5 _ (.put 7 _ .nil))) (less_put h0 (less_put h5 (less_put h7 less_nil))) (V_unroll ?_)
      clear ih
      repeat' first | refine O_lenB rfl hp ?_ | refine O_is (dec_is hlt) rfl ?_ | refine O_is (dec_is heq) rfl ?_ | refine ret .ends _ _ _ _ _ _ rfl rfl rfl rfl rfl | refine V_O rfl ?_ | refine O_step rfl ?_ | refine O_nil' ?_ | refine V_cT rfl rfl ?_ | refine V_cF rfl rfl ?_ | refine V_cEq rfl rfl ?_ | refine V_cNe rfl rfl ?_ | refine V_cB rfl rfl (fun _ => ?_) (fun _ => ?_) | refine O_gT' rfl ?_ | refine O_gU' rfl ?_ | refine O_gF' rfl rfl ?_ | refine O_gEq rfl ?_ | refine O_gNe rfl ?_ | refine O_gS rfl (fun _ => ?_) (fun _ => ?_) | refine V_fA rfl rfl ?_ | refine V_fAN rfl rfl ?_ | refine V_D rfl ?_ | refine D_step rfl ?_ | refine D_nil' ?_ | refine D_gT' rfl ?_ | refine D_gU' rfl ?_ | refine D_gF' rfl rfl ?_ | refine D_gS rfl (fun _ => ?_) (fun _ => ?_)
    | cons c rest =>
      have heq : ¬ (i : Int) = (b0.length : Int) := by subst hb; simp; omega
      have hc := c.toNat_lt
      have hat := hp.at (n := (i : Int)) (b := c) (by omega) (by subst hb; simp [hi])
      have hand := int_is (k := .u8) (and127 c)
      have hcv : PV.int .u64 (IntKind.u64.wrap ((c.toNat % 128 : Nat) : Int)) = PV.int .u64 ((c.toNat % 128 : Nat) : Int) := int_is (by rw [wrap_u64]; omega)
      have h7i : PV.int .i64 (IntKind.i64.wrap (7 * (i : Int))) = PV.int .i64 ((7 * i : Nat) : Int) := int_is (by rw [wrap_i64]; omega)
      obtain ⟨u', hu', hu2⟩ := or_at (u := u) (c := c.toNat % 128) (i := i) (by omega) (by omega)
      have hor := int_is (k := .u64) hu'
      have hw : PV.int .i64 (IntKind.i64.wrap ((i : Int) + 1)) = PV.int .i64 ((i + 1 : Nat) : Int) := int_is (by rw [wrap_i64]; omega)
      have h70 : ¬ ((7 * i : Nat) : Int) < 0 := by omega
      by_cases hgt : 127 < c.toNat
      · have hd : decN (m + 1) i (c :: rest) = NT.up (c.toNat % 128) (decN m (i + 1) rest) := by simp only [decN]; rw [if_pos hgt]
        have hgt' : (127 : Int) < (c.toNat : Int) := by omega
        have fin : ∀ (fr : List Fr) (x : EX) (e' : EC), adv 200 fr x = ([.code (.loop lp_num_Take_0)], .normal) → e'.get 0 = some p → e'.get 5 = some (.int .u64 u') → e'.get 7 = some (.int .i64 ((i + 1 : Nat) : Int)) → V T (PE (ntP (NT.at u i (decN (m + 1) i (c :: rest))))) fr x e' emptySt := fun fr x e' hadv g0 g5 g7 => V_adv hadv (by
          rw [hd, NT.at_up]
          by_cases hm0 : m = 0
          · subst hm0
            have ha : NT.at (u + 128 ^ i * (c.toNat % 128)) (i + 1) (decN 0 (i + 1) rest) = NT.at u' (i + 1) (decN 0 (i + 1) rest) := rfl
            rw [ha]
            exact ih (i + 1) u' rest (pre ++ [c]) e' (by omega) (by rw [hb]; simp) (by simp [hi]) (fun h => absurd rfl h) g0 g5 g7
          · have hu3 := hu2 (hu (by omega)) (.inl (by omega))
            rw [← hu3]
            refine ih (i + 1) u' rest (pre ++ [c]) e' (by omega) (by rw [hb]; simp) (by simp [hi]) (fun _ => ?_) g0 g5 g7
            have hui := hu (by omega)
            have h3 : 128 ^ i * (c.toNat % 128) ≤ 128 ^ i * 127 := Nat.mul_le_mul_left _ (by omega)
            rw [hu3, Nat.pow_succ]
            omega)
        refine V_less (.put 0 p (.put 5 _ (.put 7 _ .nil))) (less_put h0 (less_put h5 (less_put h7 less_nil))) (V_unroll ?_)
        clear ih out ret
        repeat' first | refine O_lenB rfl hp ?_ | refine O_at rfl rfl hat ?_ | refine O_is (dec_is hlt) rfl ?_ | refine O_is (dec_not heq) rfl ?_ | refine O_is hand rfl ?_ | refine O_is hcv rfl ?_ | refine O_is h7i rfl ?_ | refine O_shl rfl rfl h70 ?_ | refine O_is hor rfl ?_ | refine O_is (dec_is hgt') rfl ?_ | refine O_is hw rfl ?_ | refine fin _ _ _ rfl rfl rfl rfl | refine V_O rfl ?_ | refine O_step rfl ?_ | refine O_nil' ?_ | refine V_cT rfl rfl ?_ | refine V_cF rfl rfl ?_ | refine V_cEq rfl rfl ?_ | refine V_cNe rfl rfl ?_ | refine V_cB rfl rfl (fun _ => ?_) (fun _ => ?_) | refine O_gT' rfl ?_ | refine O_gU' rfl ?_ | refine O_gF' rfl rfl ?_ | refine O_gEq rfl ?_ | refine O_gNe rfl ?_ | refine O_gS rfl (fun _ => ?_) (fun _ => ?_) | refine V_fA rfl rfl ?_ | refine V_fAN rfl rfl ?_ | refine V_D rfl ?_ | refine D_step rfl ?_ | refine D_nil' ?_ | refine D_gT' rfl ?_ | refine D_gU' rfl ?_ | refine D_gF' rfl rfl ?_ | refine D_gS rfl (fun _ => ?_) (fun _ => ?_)
      · have hgt' : ¬ (127 : Int) < (c.toNat : Int) := by omega
        clear ih
        have hmod : c.toNat % 128 = c.toNat := by omega
        have okr : ¬ ((0 < i ∧ c.toNat = 0) ∨ (i = 9 ∧ 1 < c.toNat)) → NT.at u i (decN (m + 1) i (c :: rest)) = .ok u' (i + 1) := fun h => by
          simp only [decN]
          rw [if_neg hgt, if_neg h]
          simp only [NT.at]
          rw [hu2 (hu (by omega)) (by omega), hmod]
        have fo : ((0 < i ∧ c.toNat = 0) ∨ (i = 9 ∧ 1 < c.toNat)) → NT.at u i (decN (m + 1) i (c :: rest)) = .form := fun h => by
          simp only [decN]
          rw [if_neg hgt, if_pos h]
          rfl
        by_cases i0 : 0 < i
        · have i0' : (0 : Int) < (i : Int) := by omega
          by_cases c0 : c.toNat = 0
          · have c0' : (c.toNat : Int) = 0 := by omega
            have t0 := fo (.inl ⟨i0, c0⟩)
            refine V_less (.put 0 p (.put 5 _ (.put 7 _ .nil))) (less_put h0 (less_put h5 (less_put h7 less_nil))) (V_unroll ?_)
            repeat' first | refine O_lenB rfl hp ?_ | refine O_at rfl rfl hat ?_ | refine O_is (dec_is hlt) rfl ?_ | refine O_is (dec_not heq) rfl ?_ | refine O_is hand rfl ?_ | refine O_is hcv rfl ?_ | refine O_is h7i rfl ?_ | refine O_shl rfl rfl h70 ?_ | refine O_is hor rfl ?_ | refine O_is (dec_not hgt') rfl ?_ | refine O_is hw rfl ?_ | refine O_is (dec_is i0') rfl ?_ | refine O_is (dec_is c0') rfl ?_ | refine out _ _ _ _ t0 rfl | refine V_O rfl ?_ | refine O_step rfl ?_ | refine O_nil' ?_ | refine V_cT rfl rfl ?_ | refine V_cF rfl rfl ?_ | refine V_cEq rfl rfl ?_ | refine V_cNe rfl rfl ?_ | refine V_cB rfl rfl (fun _ => ?_) (fun _ => ?_) | refine O_gT' rfl ?_ | refine O_gU' rfl ?_ | refine O_gF' rfl rfl ?_ | refine O_gEq rfl ?_ | refine O_gNe rfl ?_ | refine O_gS rfl (fun _ => ?_) (fun _ => ?_) | refine V_fA rfl rfl ?_ | refine V_fAN rfl rfl ?_ | refine V_D rfl ?_ | refine D_step rfl ?_ | refine D_nil' ?_ | refine D_gT' rfl ?_ | refine D_gU' rfl ?_ | refine D_gF' rfl rfl ?_ | refine D_gS rfl (fun _ => ?_) (fun _ => ?_)
          · have c0' : ¬ (c.toNat : Int) = 0 := by omega
            by_cases i9 : i = 9
            · have i9' : (i : Int) = 9 := by omega
              by_cases c1 : 1 < c.toNat
              · have c1' : (1 : Int) < (c.toNat : Int) := by omega
                have t0 := fo (.inr ⟨i9, c1⟩)
                refine V_less (.put 0 p (.put 5 _ (.put 7 _ .nil))) (less_put h0 (less_put h5 (less_put h7 less_nil))) (V_unroll ?_)
                repeat' first | refine O_lenB rfl hp ?_ | refine O_at rfl rfl hat ?_ | refine O_is (dec_is hlt) rfl ?_ | refine O_is (dec_not heq) rfl ?_ | refine O_is hand rfl ?_ | refine O_is hcv rfl ?_ | refine O_is h7i rfl ?_ | refine O_shl rfl rfl h70 ?_ | refine O_is hor rfl ?_ | refine O_is (dec_not hgt') rfl ?_ | refine O_is hw rfl ?_ | refine O_is (dec_is i0') rfl ?_ | refine O_is (dec_not c0') rfl ?_ | refine O_is (dec_is i9') rfl ?_ | refine O_is (dec_is c1') rfl ?_ | refine out _ _ _ _ t0 rfl | refine V_O rfl ?_ | refine O_step rfl ?_ | refine O_nil' ?_ | refine V_cT rfl rfl ?_ | refine V_cF rfl rfl ?_ | refine V_cEq rfl rfl ?_ | refine V_cNe rfl rfl ?_ | refine V_cB rfl rfl (fun _ => ?_) (fun _ => ?_) | refine O_gT' rfl ?_ | refine O_gU' rfl ?_ | refine O_gF' rfl rfl ?_ | refine O_gEq rfl ?_ | refine O_gNe rfl ?_ | refine O_gS rfl (fun _ => ?_) (fun _ => ?_) | refine V_fA rfl rfl ?_ | refine V_fAN rfl rfl ?_ | refine V_D rfl ?_ | refine D_step rfl ?_ | refine D_nil' ?_ | refine D_gT' rfl ?_ | refine D_gU' rfl ?_ | refine D_gF' rfl rfl ?_ | refine D_gS rfl (fun _ => ?_) (fun _ => ?_)
              · have c1' : ¬ (1 : Int) < (c.toNat : Int) := by omega
                have t0 := okr (by omega)
                rw [t0]
                refine V_less (.put 0 p (.put 5 _ (.put 7 _ .nil))) (less_put h0 (less_put h5 (less_put h7 less_nil))) (V_unroll ?_)
                repeat' first | refine O_lenB rfl hp ?_ | refine O_at rfl rfl hat ?_ | refine O_is (dec_is hlt) rfl ?_ | refine O_is (dec_not heq) rfl ?_ | refine O_is hand rfl ?_ | refine O_is hcv rfl ?_ | refine O_is h7i rfl ?_ | refine O_shl rfl rfl h70 ?_ | refine O_is hor rfl ?_ | refine O_is (dec_not hgt') rfl ?_ | refine O_is hw rfl ?_ | refine O_is (dec_is i0') rfl ?_ | refine O_is (dec_not c0') rfl ?_ | refine O_is (dec_is i9') rfl ?_ | refine O_is (dec_not c1') rfl ?_ | refine ret (.ok u' (i + 1)) _ _ _ _ _ _ rfl rfl rfl rfl rfl | refine V_O rfl ?_ | refine O_step rfl ?_ | refine O_nil' ?_ | refine V_cT rfl rfl ?_ | refine V_cF rfl rfl ?_ | refine V_cEq rfl rfl ?_ | refine V_cNe rfl rfl ?_ | refine V_cB rfl rfl (fun _ => ?_) (fun _ => ?_) | refine O_gT' rfl ?_ | refine O_gU' rfl ?_ | refine O_gF' rfl rfl ?_ | refine O_gEq rfl ?_ | refine O_gNe rfl ?_ | refine O_gS rfl (fun _ => ?_) (fun _ => ?_) | refine V_fA rfl rfl ?_ | refine V_fAN rfl rfl ?_ | refine V_D rfl ?_ | refine D_step rfl ?_ | refine D_nil' ?_ | refine D_gT' rfl ?_ | refine D_gU' rfl ?_ | refine D_gF' rfl rfl ?_ | refine D_gS rfl (fun _ => ?_) (fun _ => ?_)
            · have i9' : ¬ (i : Int) = 9 := by omega
              have t0 := okr (by omega)
              rw [t0]
              refine V_less (.put 0 p (.put 5 _ (.put 7 _ .nil))) (less_put h0 (less_put h5 (less_put h7 less_nil))) (V_unroll ?_)
              repeat' first | refine O_lenB rfl hp ?_ | refine O_at rfl rfl hat ?_ | refine O_is (dec_is hlt) rfl ?_ | refine O_is (dec_not heq) rfl ?_ | refine O_is hand rfl ?_ | refine O_is hcv rfl ?_ | refine O_is h7i rfl ?_ | refine O_shl rfl rfl h70 ?_ | refine O_is hor rfl ?_ | refine O_is (dec_not hgt') rfl ?_ | refine O_is hw rfl ?_ | refine O_is (dec_is i0') rfl ?_ | refine O_is (dec_not c0') rfl ?_ | refine O_is (dec_not i9') rfl ?_ | refine ret (.ok u' (i + 1)) _ _ _ _ _ _ rfl rfl rfl rfl rfl | refine V_O rfl ?_ | refine O_step rfl ?_ | refine O_nil' ?_ | refine V_cT rfl rfl ?_ | refine V_cF rfl rfl ?_ | refine V_cEq rfl rfl ?_ | refine V_cNe rfl rfl ?_ | refine V_cB rfl rfl (fun _ => ?_) (fun _ => ?_) | refine O_gT' rfl ?_ | refine O_gU' rfl ?_ | refine O_gF' rfl rfl ?_ | refine O_gEq rfl ?_ | refine O_gNe rfl ?_ | refine O_gS rfl (fun _ => ?_) (fun _ => ?_) | refine V_fA rfl rfl ?_ | refine V_fAN rfl rfl ?_ | refine V_D rfl ?_ | refine D_step rfl ?_ | refine D_nil' ?_ | refine D_gT' rfl ?_ | refine D_gU' rfl ?_ | refine D_gF' rfl rfl ?_ | refine D_gS rfl (fun _ => ?_) (fun _ => ?_)
        · have i0' : ¬ (0 : Int) < (i : Int) := by omega
          have i9' : ¬ (i : Int) = 9 := by omega
          have t0 := okr (by omega)
          rw [t0]
          refine V_less (.put 0 p (.put 5 _ (.put 7 _ .nil))) (less_put h0 (less_put h5 (less_put h7 less_nil))) (V_unroll ?_)
          repeat' first | refine O_lenB rfl hp ?_ | refine O_at rfl rfl hat ?_ | refine O_is (dec_is hlt) rfl ?_ | refine O_is (dec_not heq) rfl ?_ | refine O_is hand rfl ?_ | refine O_is hcv rfl ?_ | refine O_is h7i rfl ?_ | refine O_shl rfl rfl h70 ?_ | refine O_is hor rfl ?_ | refine O_is (dec_not hgt') rfl ?_ | refine O_is hw rfl ?_ | refine O_is (dec_not i0') rfl ?_ | refine O_is (dec_not i9') rfl ?_ | refine ret (.ok u' (i + 1)) _ _ _ _ _ _ rfl rfl rfl rfl rfl | refine V_O rfl ?_ | refine O_step rfl ?_ | refine O_nil' ?_ | refine V_cT rfl rfl ?_ | refine V_cF rfl rfl ?_ | refine V_cEq rfl rfl ?_ | refine V_cNe rfl rfl ?_ | refine V_cB rfl rfl (fun _ => ?_) (fun _ => ?_) | refine O_gT' rfl ?_ | refine O_gU' rfl ?_ | refine O_gF' rfl rfl ?_ | refine O_gEq rfl ?_ | refine O_gNe rfl ?_ | refine O_gS rfl (fun _ => ?_) (fun _ => ?_) | refine V_fA rfl rfl ?_ | refine V_fAN rfl rfl ?_ | refine V_D rfl ?_ | refine D_step rfl ?_ | refine D_nil' ?_ | refine D_gT' rfl ?_ | refine D_gU' rfl ?_ | refine D_gF' rfl rfl ?_ | refine D_gS rfl (fun _ => ?_) (fun _ => ?_)
theorem NT.at_zero (t : NT) : NT.at 0 0 t = t := by cases t <;> simp [NT.at]
theorem run_NTake {p : PV} {b : List UInt8} (hp : BV p b) : T.R (.call n_num_Take [p] (ntPV (decN 10 0 b))) := by
  have hl := fun e h0 h5 h7 => ntake_loop p b hp 10 0 0 b [] e rfl rfl rfl (fun _ => by omega) h0 h5 h7
  rw [NT.at_zero] at hl
  have plp := hp.pl
  refine call_V rfl rfl ?_
  repeat' first | refine V_cutA rfl (hl _ rfl rfl rfl) ?_ | refine V_O rfl ?_ | refine O_step rfl ?_ | refine O_nil' ?_ | refine V_cT rfl rfl ?_ | refine V_cF rfl rfl ?_ | refine V_cEq rfl rfl ?_ | refine V_cNe rfl rfl ?_ | refine V_cB rfl rfl (fun _ => ?_) (fun _ => ?_) | refine O_gT' rfl ?_ | refine O_gU' rfl ?_ | refine O_gF' rfl rfl ?_ | refine O_gEq rfl ?_ | refine O_gNe rfl ?_ | refine O_gS rfl (fun _ => ?_) (fun _ => ?_) | refine V_fA rfl rfl ?_ | refine V_fAN rfl rfl ?_ | refine V_D rfl ?_ | refine D_step rfl ?_ | refine D_nil' ?_ | refine D_gT' rfl ?_ | refine D_gU' rfl ?_ | refine D_gF' rfl rfl ?_ | refine D_gS rfl (fun _ => ?_) (fun _ => ?_)
  rintro x e' st' ⟨rfl, ⟨rfl, ht, rfl⟩ | ⟨rfl, u, n, e, ht, rfl⟩⟩
  · rw [ht]
    repeat' first | refine V_O rfl ?_ | refine O_step rfl ?_ | refine O_nil' ?_ | refine V_cT rfl rfl ?_ | refine V_cF rfl rfl ?_ | refine V_cEq rfl rfl ?_ | refine V_cNe rfl rfl ?_ | refine V_cB rfl rfl (fun _ => ?_) (fun _ => ?_) | refine O_gT' rfl ?_ | refine O_gU' rfl ?_ | refine O_gF' rfl rfl ?_ | refine O_gEq rfl ?_ | refine O_gNe rfl ?_ | refine O_gS rfl (fun _ => ?_) (fun _ => ?_) | refine V_fA rfl rfl ?_ | refine V_fAN rfl rfl ?_ | refine V_D rfl ?_ | refine D_step rfl ?_ | refine D_nil' ?_ | refine D_gT' rfl ?_ | refine D_gU' rfl ?_ | refine D_gF' rfl rfl ?_ | refine D_gS rfl (fun _ => ?_) (fun _ => ?_)
    rfl
  · rw [ht]
    exact V_fin rfl rfl (Pl.view (by (repeat' (first | exact Pl.int _ _ | exact Pl.bool _ | exact Pl.str _ | exact Pl.nilSl | exact pl_nil | refine pl_cons ?_ ?_ | refine Pl.tuple _ ?_ | refine Pl.agg _ ?_ | refine Pl.func _ _ ?_ | assumption | refine Pl.iptr _ _ ?_ | exact pll_nil | refine pll_cons ?_ ?_ | refine Pl.sl _ _ ?_)); first | done | fail)) rfl
end Go.Proofs.YthoknkogdldgcaaDoor

/- Numbers: an answer or none, told; without their signs, and signed again. · A number's digits, and the number of a text, over plain values: the library's functions and this page's. · num.Text, num.Parse. -/
import Derived.Test.YtbeaalkfakjoiaaDoorT
import Derived.Lib.ItoaNum
import Derived.Lib.ParseIntBTie
import Derived.Test.YtbeaalkfakjoiaaDoorAmZ
set_option linter.unusedVariables false
set_option linter.unusedSimpArgs false
namespace Go.Proofs.YtbeaalkfakjoiaaDoor
open Go Go.AM Go.RowKit
def R64 (a : Int) : Prop := -9223372036854775808 ≤ a ∧ a ≤ 9223372036854775807
theorem wr {a : Int} (h : R64 a) : IntKind.i64.wrap a = a := by unfold R64 at h; rw [wrap_i64]; omega
def ans (x : Int) : Int × Int := if -9223372036854775808 ≤ x ∧ x ≤ 9223372036854775807 then (x, 0) else (0, 7)
def two (x : Int × Int) : PV := .tuple [.int .i64 x.1, .int .i64 x.2]
theorem run_told (a : Int) (b : Bool) : T.R (.call n_num_told [.int .i64 a, .bool b] (two (if b = true then (a, 0) else (0, 7)))) := by
  refine call_V rfl rfl ?_
  repeat' first | ((with_reducible show V _ _ _ _ _ _); first | refine V_O rfl ?_ | refine V_cT rfl rfl ?_ | refine V_cF rfl rfl ?_ | refine V_cEq rfl rfl ?_ | refine V_cNe rfl rfl ?_ | refine V_cB rfl rfl (fun _ => ?_) (fun _ => ?_) | refine V_fA rfl rfl ?_ | refine V_fAN rfl rfl ?_ | refine V_D rfl ?_) | ((with_reducible show VO _ _ _ _ _ _ _); first | refine O_step rfl ?_ | refine O_nil' ?_ | refine O_gT' rfl ?_ | refine O_gU' rfl ?_ | refine O_gF' rfl rfl ?_ | refine O_gEq rfl ?_ | refine O_gNe rfl ?_ | refine O_gS rfl (fun _ => ?_) (fun _ => ?_)) | ((with_reducible show VD _ _ _ _ _ _ _); first | refine D_step rfl ?_ | refine D_nil' ?_ | refine D_gT' rfl ?_ | refine D_gU' rfl ?_ | refine D_gF' rfl rfl ?_ | refine D_gS rfl (fun _ => ?_) (fun _ => ?_))
  all_goals simp_all [two]
theorem two_in {x : Int} (h : R64 x) : two (ans x) = .tuple [.int .i64 x, .int .i64 0] := by unfold R64 at h; unfold ans two; rw [if_pos h]
theorem two_out {x : Int} (h : ¬ R64 x) : two (ans x) = .tuple [.int .i64 0, .int .i64 7] := by unfold R64 at h; unfold ans two; rw [if_neg h]
theorem run_bare (a : Int) (ha : R64 a) : T.R (.call n_rambleref01_bare [.int .i64 a] (.int .u64 a.natAbs)) := by
  refine call_V rfl rfl ?_
  repeat' first | ((with_reducible show V _ _ _ _ _ _); first | refine V_O rfl ?_ | refine V_cT rfl rfl ?_ | refine V_cF rfl rfl ?_ | refine V_cEq rfl rfl ?_ | refine V_cNe rfl rfl ?_ | refine V_cB rfl rfl (fun _ => ?_) (fun _ => ?_) | refine V_fA rfl rfl ?_ | refine V_fAN rfl rfl ?_ | refine V_D rfl ?_) | ((with_reducible show VO _ _ _ _ _ _ _); first | refine O_step rfl ?_ | refine O_nil' ?_ | refine O_gT' rfl ?_ | refine O_gU' rfl ?_ | refine O_gF' rfl rfl ?_ | refine O_gEq rfl ?_ | refine O_gNe rfl ?_ | refine O_gS rfl (fun _ => ?_) (fun _ => ?_)) | ((with_reducible show VD _ _ _ _ _ _ _); first | refine D_step rfl ?_ | refine D_nil' ?_ | refine D_gT' rfl ?_ | refine D_gU' rfl ?_ | refine D_gF' rfl rfl ?_ | refine D_gS rfl (fun _ => ?_) (fun _ => ?_))
  all_goals simp only [decide_eq_true_eq, decide_eq_false_iff_not, Bool.not_eq_eq_eq_not, Bool.not_true, Bool.not_false, wrap_u64] at *
  all_goals unfold R64 at ha
  all_goals congr 1; omega
theorem run_signed (neg : Bool) (u : Int) (hu : 0 ≤ u ∧ u < 18446744073709551616) : T.R (.call n_rambleref01_signed [.bool neg, .int .u64 u] (.int .i64 (IntKind.i64.wrap (if neg = true then -u else u)))) := by
  refine call_V rfl rfl ?_
  repeat' first | ((with_reducible show V _ _ _ _ _ _); first | refine V_O rfl ?_ | refine V_cT rfl rfl ?_ | refine V_cF rfl rfl ?_ | refine V_cEq rfl rfl ?_ | refine V_cNe rfl rfl ?_ | refine V_cB rfl rfl (fun _ => ?_) (fun _ => ?_) | refine V_fA rfl rfl ?_ | refine V_fAN rfl rfl ?_ | refine V_D rfl ?_) | ((with_reducible show VO _ _ _ _ _ _ _); first | refine O_step rfl ?_ | refine O_nil' ?_ | refine O_gT' rfl ?_ | refine O_gU' rfl ?_ | refine O_gF' rfl rfl ?_ | refine O_gEq rfl ?_ | refine O_gNe rfl ?_ | refine O_gS rfl (fun _ => ?_) (fun _ => ?_)) | ((with_reducible show VD _ _ _ _ _ _ _); first | refine D_step rfl ?_ | refine D_nil' ?_ | refine D_gT' rfl ?_ | refine D_gU' rfl ?_ | refine D_gF' rfl rfl ?_ | refine D_gS rfl (fun _ => ?_) (fun _ => ?_))
  all_goals simp_all [wrap_u64, wrap_i64]
  all_goals omega
end Go.Proofs.YtbeaalkfakjoiaaDoor
set_option linter.unusedVariables false
set_option linter.unusedSimpArgs false
namespace Go.Proofs.YtbeaalkfakjoiaaDoor
open Go Go.AM Go.RowKit
abbrev IsD (c : UInt8) : Prop := 48 ≤ c.toNat ∧ c.toNat ≤ 57
def digV (a : Nat) (c : UInt8) : Nat := a * 10 + (c.toNat - 48)
def valD (a : Nat) (l : List UInt8) : Nat := l.foldl digV a
theorem valD_nil (a : Nat) : valD a [] = a := rfl
theorem valD_cons (a : Nat) (c : UInt8) (r : List UInt8) : valD a (c :: r) = valD (a * 10 + (c.toNat - 48)) r := by unfold valD; rw [List.foldl_cons]; rfl
theorem valD_le (l : List UInt8) : ∀ a : Nat, a ≤ valD a l := by
  induction l with
  | nil => intro a; rw [valD_nil]; exact Nat.le_refl _
  | cons c r ih =>
    intro a
    have h := ih (a * 10 + (c.toNat - 48))
    rw [valD_cons]
    omega
theorem valD_snoc (l : List UInt8) (c : UInt8) : ∀ a : Nat, valD a (l ++ [c]) = valD a l * 10 + (c.toNat - 48) := by
  intro a
  unfold valD
  rw [List.foldl_append]
  rfl
def bodyD (s : List UInt8) : List UInt8 := if s.head? = some 45 then s.tail else s
def sgnD (s : List UInt8) : Int := if s.head? = some 45 then -(valD 0 (bodyD s) : Int) else valD 0 (bodyD s)
def GoodD (s : List UInt8) : Prop := bodyD s ≠ [] ∧ (∀ c ∈ bodyD s, IsD c) ∧ ((bodyD s).head? = some 48 → s = [48])
noncomputable instance (s : List UInt8) : Decidable (GoodD s) := Classical.propDecidable _
instance (n : Int) : Decidable (R64 n) := by unfold R64; exact inferInstance
noncomputable def parT (s : List UInt8) : Int × Int := if GoodD s then ans (sgnD s) else (0, 10)
open Go.Lib in
theorem parseUint10_dig (l : List UInt8) : ∀ a : Nat, (∀ c ∈ l, IsD c) → a < 18446744073709551616 → parseUint10 a l = if valD a l < 18446744073709551616 then .ok (valD a l) else .range := by
  induction l with
  | nil => intro a h ha; rw [parseUint10, valD_nil, if_pos ha]
  | cons c r ih =>
    intro a h ha
    have hc := h c (by simp)
    unfold IsD at hc
    have hle := valD_le r (a * 10 + (c.toNat - 48))
    rw [parseUint10, valD_cons, if_pos hc]
    by_cases h1 : 1844674407370955162 ≤ a
    · rw [if_pos h1, if_neg (by omega)]
    · rw [if_neg h1]
      by_cases h2 : 18446744073709551616 ≤ a * 10 + (c.toNat - 48)
      · rw [if_pos h2, if_neg (by omega)]
      · rw [if_neg h2]
        exact ih _ (fun d hd => h d (by simp [hd])) (by omega)
open Go.Lib in
theorem parseInt_dig {s : List UInt8} (h : GoodD s) : parseIntB 64 s = if R64 (sgnD s) then .ok (sgnD s) else .range := by
  obtain ⟨h1, h2, _⟩ := h
  rw [parseIntB_64]
  cases s with
  | nil => exact absurd rfl h1
  | cons c r =>
    by_cases h45 : c = 45
    · subst h45
      have hb : bodyD (45 :: r) = r := rfl
      have hs : sgnD (45 :: r) = -(valD 0 r : Int) := rfl
      rw [hb] at h1 h2
      rw [hs, atoiAll_minus, parseMag, if_neg h1, parseUint10_dig r 0 h2 (by decide)]
      by_cases hlt : valD 0 r < 18446744073709551616
      · rw [if_pos hlt]
        simp only [Lib.signed]
        by_cases h3 : 9223372036854775808 < valD 0 r
        · rw [if_pos h3, if_neg (by unfold R64; omega)]
        · rw [if_neg h3, if_pos (by unfold R64; omega)]
      · rw [if_neg hlt, if_neg (by unfold R64; omega)]
        rfl
    · have hh : (c :: r).head? ≠ some 45 := by simp [h45]
      have hb : bodyD (c :: r) = c :: r := by unfold bodyD; rw [if_neg hh]
      have hs : sgnD (c :: r) = (valD 0 (c :: r) : Int) := by unfold sgnD; rw [if_neg hh, hb]
      rw [hb] at h2
      have hc := h2 c (by simp)
      unfold IsD at hc
      rw [hs, atoiAll_plain c r (by omega) (by omega), parseMag, if_neg (by simp), parseUint10_dig (c :: r) 0 h2 (by decide)]
      by_cases hlt : valD 0 (c :: r) < 18446744073709551616
      · rw [if_pos hlt]
        simp only [Lib.signless]
        by_cases h3 : 9223372036854775808 ≤ valD 0 (c :: r)
        · rw [if_pos h3, if_neg (by unfold R64; omega)]
        · rw [if_neg h3, if_pos (by unfold R64; omega)]
      · rw [if_neg hlt, if_neg (by unfold R64; omega)]
        rfl
open Go.Lib in
theorem dec_snoc {u : Nat} (h : ¬ u < 10) : decDigits u = decDigits (u / 10) ++ [UInt8.ofNat (48 + u % 10)] := by
  rw [decDigits, dif_neg h]
open Go.Lib in
theorem dec_small {u : Nat} (h : u < 10) : decDigits u = [UInt8.ofNat (48 + u)] := by
  rw [decDigits, dif_pos h]
theorem dig_nat {d : Nat} (h : d < 10) : (UInt8.ofNat (48 + d)).toNat = 48 + d := by simp; omega
open Go.Lib in
theorem dec_good (u : Nat) : decDigits u ≠ [] ∧ (∀ c ∈ decDigits u, IsD c) ∧ valD 0 (decDigits u) = u ∧ ((decDigits u).head? = some 48 → u = 0) := by
  induction u using Nat.strongRecOn with
  | _ u ih =>
    by_cases h : u < 10
    · rw [dec_small h]
      refine ⟨by simp, fun c hc => ?_, ?_, fun hh => ?_⟩
      · simp only [List.mem_singleton] at hc
        subst hc
        unfold IsD
        rw [dig_nat h]
        omega
      · rw [valD_cons, valD_nil, dig_nat h]
        omega
      · injection hh with hh
        have := congrArg UInt8.toNat hh
        rw [dig_nat h] at this
        have h48 : (48 : UInt8).toNat = 48 := rfl
        omega
    · obtain ⟨i1, i2, i3, i4⟩ := ih (u / 10) (by omega)
      have hd := dig_nat (d := u % 10) (by omega)
      rw [dec_snoc h]
      refine ⟨by simp, fun c hc => ?_, ?_, fun hh => ?_⟩
      · rcases List.mem_append.1 hc with hc | hc
        · exact i2 c hc
        · simp only [List.mem_singleton] at hc
          subst hc
          unfold IsD
          rw [hd]
          omega
      · rw [valD_snoc, i3, hd]
        omega
      · cases hl : decDigits (u / 10) with
        | nil => exact absurd hl i1
        | cons a l =>
          rw [hl] at hh i4
          have := i4 hh
          omega
open Go.Lib in
theorem itoa_good {n : Int} (h : R64 n) : parT (itoa n) = (n, 0) := by
  have hA : ans n = (n, 0) := by unfold R64 at h; unfold ans; rw [if_pos h]
  unfold itoa
  by_cases hn : n < 0
  · rw [if_pos hn]
    obtain ⟨i1, i2, i3, i4⟩ := dec_good n.natAbs
    have hb : bodyD (45 :: decDigits n.natAbs) = decDigits n.natAbs := rfl
    have hs : sgnD (45 :: decDigits n.natAbs) = n := by
      show -(valD 0 (decDigits n.natAbs) : Int) = n
      rw [i3]
      omega
    have hg : GoodD (45 :: decDigits n.natAbs) := by
      refine ⟨by rw [hb]; exact i1, by rw [hb]; exact i2, fun hh => ?_⟩
      rw [hb] at hh
      have := i4 hh
      omega
    unfold parT
    rw [if_pos hg, hs, hA]
  · rw [if_neg hn]
    obtain ⟨i1, i2, i3, i4⟩ := dec_good n.toNat
    have hh : (decDigits n.toNat).head? ≠ some 45 := by
      cases hl : decDigits n.toNat with
      | nil => simp
      | cons a l =>
        have := i2 a (by rw [hl]; simp)
        unfold IsD at this
        intro h
        injection h with h
        subst h
        have h45 : (45 : UInt8).toNat = 45 := rfl
        omega
    have hb : bodyD (decDigits n.toNat) = decDigits n.toNat := by unfold bodyD; rw [if_neg hh]
    have hs : sgnD (decDigits n.toNat) = n := by
      unfold sgnD
      rw [if_neg hh, hb, i3]
      omega
    have hg : GoodD (decDigits n.toNat) := by
      refine ⟨by rw [hb]; exact i1, by rw [hb]; exact i2, fun hh => ?_⟩
      rw [hb] at hh
      have := i4 hh
      rw [this, dec_small (by omega)]
      rfl
    unfold parT
    rw [if_pos hg, hs, hA]
end Go.Proofs.YtbeaalkfakjoiaaDoor
set_option linter.unusedVariables false
set_option linter.unusedSimpArgs false
namespace Go.Proofs.YtbeaalkfakjoiaaDoor
open Go Go.AM Go.RowKit
theorem run_FormatInt {n : Int} (h : R64 n) : T.R (.call n_strconv_FormatInt [.int .i64 n, .int .i64 10] (.str (Lib.itoa n))) := .prim _ _ _ (.inl ⟨rfl, n, h.1, h.2, rfl, rfl⟩)
theorem run_Text {n : Int} (h : R64 n) : T.R (.call n_num_Text [.int .i64 n] (.str (Lib.itoa n))) := by
  have hf := run_FormatInt h
  refine call_V rfl rfl ?_
  repeat' first | ((with_reducible show V _ _ _ _ _ _); first | refine V_O rfl ?_ | refine V_cT rfl rfl ?_ | refine V_cF rfl rfl ?_ | refine V_cEq rfl rfl ?_ | refine V_cNe rfl rfl ?_ | refine V_cB rfl rfl (fun _ => ?_) (fun _ => ?_) | refine V_fA rfl rfl ?_ | refine V_fAN rfl rfl ?_ | refine V_D rfl ?_) | ((with_reducible show VO _ _ _ _ _ _ _); first | refine O_cA rfl rfl hf ?_ | refine O_step rfl ?_ | refine O_nil' ?_ | refine O_gT' rfl ?_ | refine O_gU' rfl ?_ | refine O_gF' rfl rfl ?_ | refine O_gEq rfl ?_ | refine O_gNe rfl ?_ | refine O_gS rfl (fun _ => ?_) (fun _ => ?_)) | ((with_reducible show VD _ _ _ _ _ _ _); first | refine D_step rfl ?_ | refine D_nil' ?_ | refine D_gT' rfl ?_ | refine D_gU' rfl ?_ | refine D_gF' rfl rfl ?_ | refine D_gS rfl (fun _ => ?_) (fun _ => ?_))
  rfl
theorem run_notD (c : UInt8) : T.R (.call n_num_Parse_1 [.int .u8 c.toNat] (.bool (!decide (IsD c)))) := by
  refine call_V rfl rfl ?_
  repeat' first | ((with_reducible show V _ _ _ _ _ _); first | refine V_O rfl ?_ | refine V_cT rfl rfl ?_ | refine V_cF rfl rfl ?_ | refine V_cEq rfl rfl ?_ | refine V_cNe rfl rfl ?_ | refine V_cB rfl rfl (fun _ => ?_) (fun _ => ?_) | refine V_fA rfl rfl ?_ | refine V_fAN rfl rfl ?_ | refine V_D rfl ?_) | ((with_reducible show VO _ _ _ _ _ _ _); first | refine O_step rfl ?_ | refine O_nil' ?_ | refine O_gT' rfl ?_ | refine O_gU' rfl ?_ | refine O_gF' rfl rfl ?_ | refine O_gEq rfl ?_ | refine O_gNe rfl ?_ | refine O_gS rfl (fun _ => ?_) (fun _ => ?_)) | ((with_reducible show VD _ _ _ _ _ _ _); first | refine D_step rfl ?_ | refine D_nil' ?_ | refine D_gT' rfl ?_ | refine D_gU' rfl ?_ | refine D_gF' rfl rfl ?_ | refine D_gS rfl (fun _ => ?_) (fun _ => ?_))
  all_goals congr 1
  all_goals simp only [Bool.not_false, decide_eq_true_eq, decide_eq_false_iff_not] at *
  all_goals first | (rw [decide_eq_false (p := IsD c) (fun h => by have := h.1; omega)]; rfl) | (by_cases h2 : c.toNat ≤ 57; (· rw [decide_eq_true (p := IsD c) ⟨by omega, h2⟩, decide_eq_false (by omega)]; rfl); (· rw [decide_eq_false (p := IsD c) (fun h => h2 h.2), decide_eq_true (by omega)]; rfl))
def idxDP (b : List UInt8) : EX → EC → St → Prop := fun x e st => st = emptySt ∧ ((x = .exit 0 ∧ e = .nil ∧ ∀ c ∈ b, IsD c) ∨ (x = .ret ∧ ∃ i : Nat, e = ecOf [(4, .int .i64 i)] ∧ ¬ ∀ c ∈ b, IsD c))
theorem idxD_loop {p : PV} {b : List UInt8} (hp : BV p b) (hb : b.length ≤ 9223372036854775800) : ∀ (rest pre : List UInt8), b = pre ++ rest → (∀ c ∈ pre, IsD c) →
    V T (PE (idxDP b)) [.code (.loop lp_slices_IndexFunc_byte_byte_0)] .normal (ecOf [(0, p), (1, .func n_num_Parse_1 []), (7, .int .i64 b.length), (8, .int .i64 pre.length)]) emptySt := by
  intro rest
  induction rest with
  | nil =>
    intro pre hl hpre
    have hlt : decide ((pre.length : Int) < b.length) = false := decide_eq_false (by subst hl; simp)
    refine V_unroll ?_
    repeat' first | ((with_reducible show V _ _ _ _ _ _); first | refine V_cH hlt rfl rfl ?_ | refine V_out [] rfl trivial ⟨rfl, .inl ⟨rfl, rfl, by rw [hl, List.append_nil]; exact hpre⟩⟩ | refine V_O rfl ?_ | refine V_cT rfl rfl ?_ | refine V_cF rfl rfl ?_ | refine V_cEq rfl rfl ?_ | refine V_cNe rfl rfl ?_ | refine V_cB rfl rfl (fun _ => ?_) (fun _ => ?_) | refine V_fA rfl rfl ?_ | refine V_fAN rfl rfl ?_ | refine V_D rfl ?_) | ((with_reducible show VO _ _ _ _ _ _ _); first | refine O_step rfl ?_ | refine O_nil' ?_ | refine O_gT' rfl ?_ | refine O_gU' rfl ?_ | refine O_gF' rfl rfl ?_ | refine O_gEq rfl ?_ | refine O_gNe rfl ?_ | refine O_gS rfl (fun _ => ?_) (fun _ => ?_)) | ((with_reducible show VD _ _ _ _ _ _ _); first | refine D_step rfl ?_ | refine D_nil' ?_ | refine D_gT' rfl ?_ | refine D_gU' rfl ?_ | refine D_gF' rfl rfl ?_ | refine D_gS rfl (fun _ => ?_) (fun _ => ?_))
  | cons c rest ih =>
    intro pre hl hpre
    have hlt : decide ((pre.length : Int) < b.length) = true := decide_eq_true (by subst hl; simp; omega)
    have hat := hp.at (n := (pre.length : Int)) (b := c) (by omega) (by subst hl; simp)
    have hn := run_notD c
    have hpl : pre.length < b.length := by subst hl; simp
    refine V_unroll ?_
    by_cases hd : IsD c
    · rw [decide_eq_true hd] at hn
      have hw : IntKind.i64.wrap ((pre.length : Int) + 1) = ((pre ++ [c]).length : Int) := by rw [wrap_i64]; simp; omega
      have hi := ih (pre ++ [c]) (by rw [hl]; simp) (fun d h => by rcases List.mem_append.1 h with h | h; exact hpre d h; simp only [List.mem_singleton] at h; rw [h]; exact hd)
      repeat' first | ((with_reducible show V _ _ _ _ _ _); first | refine V_cHT hlt rfl rfl ?_ | refine V_re rfl hi ⟨rfl, rfl, rfl, some_int hw, trivial⟩ | refine V_O rfl ?_ | refine V_cT rfl rfl ?_ | refine V_cF rfl rfl ?_ | refine V_cEq rfl rfl ?_ | refine V_cNe rfl rfl ?_ | refine V_cB rfl rfl (fun _ => ?_) (fun _ => ?_) | refine V_fA rfl rfl ?_ | refine V_fAN rfl rfl ?_ | refine V_D rfl ?_) | ((with_reducible show VO _ _ _ _ _ _ _); first | refine O_at rfl rfl hat ?_ | refine O_cA rfl rfl hn ?_ | refine O_step rfl ?_ | refine O_nil' ?_ | refine O_gT' rfl ?_ | refine O_gU' rfl ?_ | refine O_gF' rfl rfl ?_ | refine O_gEq rfl ?_ | refine O_gNe rfl ?_ | refine O_gS rfl (fun _ => ?_) (fun _ => ?_)) | ((with_reducible show VD _ _ _ _ _ _ _); first | refine D_step rfl ?_ | refine D_nil' ?_ | refine D_gT' rfl ?_ | refine D_gU' rfl ?_ | refine D_gF' rfl rfl ?_ | refine D_gS rfl (fun _ => ?_) (fun _ => ?_))
    · rw [decide_eq_false hd] at hn
      repeat' first | ((with_reducible show V _ _ _ _ _ _); first | refine V_cHT hlt rfl rfl ?_ | refine V_out [(4, .int .i64 pre.length)] rfl ⟨rfl, trivial⟩ ⟨rfl, .inr ⟨rfl, pre.length, rfl, fun h => hd (h c (by rw [hl]; simp))⟩⟩ | refine V_O rfl ?_ | refine V_cT rfl rfl ?_ | refine V_cF rfl rfl ?_ | refine V_cEq rfl rfl ?_ | refine V_cNe rfl rfl ?_ | refine V_cB rfl rfl (fun _ => ?_) (fun _ => ?_) | refine V_fA rfl rfl ?_ | refine V_fAN rfl rfl ?_ | refine V_D rfl ?_) | ((with_reducible show VO _ _ _ _ _ _ _); first | refine O_at rfl rfl hat ?_ | refine O_cA rfl rfl hn ?_ | refine O_step rfl ?_ | refine O_nil' ?_ | refine O_gT' rfl ?_ | refine O_gU' rfl ?_ | refine O_gF' rfl rfl ?_ | refine O_gEq rfl ?_ | refine O_gNe rfl ?_ | refine O_gS rfl (fun _ => ?_) (fun _ => ?_)) | ((with_reducible show VD _ _ _ _ _ _ _); first | refine D_step rfl ?_ | refine D_nil' ?_ | refine D_gT' rfl ?_ | refine D_gU' rfl ?_ | refine D_gF' rfl rfl ?_ | refine D_gS rfl (fun _ => ?_) (fun _ => ?_))
theorem run_ContainsD {p : PV} {b : List UInt8} (hp : BV p b) (hb : b.length ≤ 9223372036854775800) : T.R (.call n_slices_ContainsFunc_byte_byte [p, .func n_num_Parse_1 []] (.bool (!decide (∀ c ∈ b, IsD c)))) := by
  have plp := hp.pl
  have hl := idxD_loop hp hb b [] rfl (fun c h => by cases h)
  have key : ∃ r, T.R (.call n_slices_IndexFunc_byte_byte [p, .func n_num_Parse_1 []] r) ∧ ∃ i : Int, r = .int .i64 i ∧ decide (0 ≤ i) = !decide (∀ c ∈ b, IsD c) := by
    refine call_VQ rfl rfl ?_
    repeat' first | ((with_reducible show V _ _ _ _ _ _); first | refine V_cutTo rfl hl ⟨rfl, rfl, rfl, rfl, trivial⟩ ?_ | refine V_O rfl ?_ | refine V_cT rfl rfl ?_ | refine V_cF rfl rfl ?_ | refine V_cEq rfl rfl ?_ | refine V_cNe rfl rfl ?_ | refine V_cB rfl rfl (fun _ => ?_) (fun _ => ?_) | refine V_fA rfl rfl ?_ | refine V_fAN rfl rfl ?_ | refine V_D rfl ?_) | ((with_reducible show VO _ _ _ _ _ _ _); first | refine O_lenB rfl hp ?_ | refine O_step rfl ?_ | refine O_nil' ?_ | refine O_gT' rfl ?_ | refine O_gU' rfl ?_ | refine O_gF' rfl rfl ?_ | refine O_gEq rfl ?_ | refine O_gNe rfl ?_ | refine O_gS rfl (fun _ => ?_) (fun _ => ?_)) | ((with_reducible show VD _ _ _ _ _ _ _); first | refine D_step rfl ?_ | refine D_nil' ?_ | refine D_gT' rfl ?_ | refine D_gU' rfl ?_ | refine D_gF' rfl rfl ?_ | refine D_gS rfl (fun _ => ?_) (fun _ => ?_))
    rintro x e' st' ⟨rfl, ⟨rfl, rfl, h⟩ | ⟨rfl, i, rfl, h⟩⟩
    · repeat' first | ((with_reducible show V _ _ _ _ _ _); first | refine V_O rfl ?_ | refine V_cT rfl rfl ?_ | refine V_cF rfl rfl ?_ | refine V_cEq rfl rfl ?_ | refine V_cNe rfl rfl ?_ | refine V_cB rfl rfl (fun _ => ?_) (fun _ => ?_) | refine V_fA rfl rfl ?_ | refine V_fAN rfl rfl ?_ | refine V_D rfl ?_) | ((with_reducible show VO _ _ _ _ _ _ _); first | refine O_step rfl ?_ | refine O_nil' ?_ | refine O_gT' rfl ?_ | refine O_gU' rfl ?_ | refine O_gF' rfl rfl ?_ | refine O_gEq rfl ?_ | refine O_gNe rfl ?_ | refine O_gS rfl (fun _ => ?_) (fun _ => ?_)) | ((with_reducible show VD _ _ _ _ _ _ _); first | refine D_step rfl ?_ | refine D_nil' ?_ | refine D_gT' rfl ?_ | refine D_gU' rfl ?_ | refine D_gF' rfl rfl ?_ | refine D_gS rfl (fun _ => ?_) (fun _ => ?_))
      exact ⟨-1, rfl, by rw [decide_eq_true h]; rfl⟩
    · repeat' first | ((with_reducible show V _ _ _ _ _ _); first | refine V_O rfl ?_ | refine V_cT rfl rfl ?_ | refine V_cF rfl rfl ?_ | refine V_cEq rfl rfl ?_ | refine V_cNe rfl rfl ?_ | refine V_cB rfl rfl (fun _ => ?_) (fun _ => ?_) | refine V_fA rfl rfl ?_ | refine V_fAN rfl rfl ?_ | refine V_D rfl ?_) | ((with_reducible show VO _ _ _ _ _ _ _); first | refine O_step rfl ?_ | refine O_nil' ?_ | refine O_gT' rfl ?_ | refine O_gU' rfl ?_ | refine O_gF' rfl rfl ?_ | refine O_gEq rfl ?_ | refine O_gNe rfl ?_ | refine O_gS rfl (fun _ => ?_) (fun _ => ?_)) | ((with_reducible show VD _ _ _ _ _ _ _); first | refine D_step rfl ?_ | refine D_nil' ?_ | refine D_gT' rfl ?_ | refine D_gU' rfl ?_ | refine D_gF' rfl rfl ?_ | refine D_gS rfl (fun _ => ?_) (fun _ => ?_))
      exact ⟨i, rfl, by rw [decide_eq_false h, decide_eq_true (by omega)]; rfl⟩
  obtain ⟨r, h1, i, rfl, hi⟩ := key
  rw [← hi]
  refine call_V rfl rfl ?_
  repeat' first | ((with_reducible show V _ _ _ _ _ _); first | refine V_O rfl ?_ | refine V_cT rfl rfl ?_ | refine V_cF rfl rfl ?_ | refine V_cEq rfl rfl ?_ | refine V_cNe rfl rfl ?_ | refine V_cB rfl rfl (fun _ => ?_) (fun _ => ?_) | refine V_fA rfl rfl ?_ | refine V_fAN rfl rfl ?_ | refine V_D rfl ?_) | ((with_reducible show VO _ _ _ _ _ _ _); first | refine O_cA rfl rfl h1 ?_ | refine O_step rfl ?_ | refine O_nil' ?_ | refine O_gT' rfl ?_ | refine O_gU' rfl ?_ | refine O_gF' rfl rfl ?_ | refine O_gEq rfl ?_ | refine O_gNe rfl ?_ | refine O_gS rfl (fun _ => ?_) (fun _ => ?_)) | ((with_reducible show VD _ _ _ _ _ _ _); first | refine D_step rfl ?_ | refine D_nil' ?_ | refine D_gT' rfl ?_ | refine D_gU' rfl ?_ | refine D_gF' rfl rfl ?_ | refine D_gS rfl (fun _ => ?_) (fun _ => ?_))
  rfl
def parC (n : Nat) : PC := (List.range n).foldl (fun c _ => match c with | .seq _ b => b | c => c) pf_num_Parse.body
theorem par_bad {s : List UInt8} (h : ¬ GoodD s) : parT s = (0, 10) := by unfold parT; rw [if_neg h]
theorem par_good {s : List UInt8} (h : GoodD s) : parT s = ans (sgnD s) := by unfold parT; rw [if_pos h]
theorem piPV_good {s : List UInt8} (h : GoodD s) : (R64 (sgnD s) ∧ piPV s = .tuple [.int .i64 (sgnD s), .nilIface]) ∨ ¬ R64 (sgnD s) ∧ ∃ v, piPV s = .tuple [.int .i64 v, .iface 102 .junk] := by
  have hp := parseInt_dig h
  unfold piPV
  by_cases hr : R64 (sgnD s)
  · rw [hp, if_pos hr]
    exact .inl ⟨hr, rfl⟩
  · rw [hp, if_neg hr]
    exact .inr ⟨hr, _, rfl⟩
theorem told_in {x : Int} (h : R64 x) : T.R (.call n_num_told [.int .i64 x, .bool true] (two (ans x))) := by
  have := run_told x true
  rw [if_pos rfl] at this
  unfold ans
  unfold R64 at h
  rw [if_pos h]
  exact this
theorem told_out {x : Int} (h : ¬ R64 x) (v : Int) : T.R (.call n_num_told [.int .i64 v, .bool false] (two (ans x))) := by
  have := run_told v false
  rw [if_neg (by simp)] at this
  unfold ans
  unfold R64 at h
  rw [if_neg h]
  exact this
set_option maxHeartbeats 2000000 in
theorem par2 {s : List UInt8} (hs : s.length ≤ 281474976710656) : ∀ (fr : List Fr) (x : EX), adv 200 fr x = adv 200 [.code (parC 3)] .normal → V T (Go.AM.Ends pf_num_Parse (· = two (parT s))) fr x (ecOf [(0, .str s), (4, .str (bodyD s))]) emptySt := by
  intro fr x hadv
  have hbl : (bodyD s).length ≤ s.length := by unfold bodyD; split <;> simp
  cases hb : bodyD s with
  | nil =>
    have hg : ¬ GoodD s := fun h => h.1 hb
    rw [par_bad hg]
    refine V_adv (hadv.trans rfl) ?_
    repeat' first | ((with_reducible show V _ _ _ _ _ _); first | refine V_O rfl ?_ | refine V_cT rfl rfl ?_ | refine V_cF rfl rfl ?_ | refine V_cEq rfl rfl ?_ | refine V_cNe rfl rfl ?_ | refine V_cB rfl rfl (fun _ => ?_) (fun _ => ?_) | refine V_fA rfl rfl ?_ | refine V_fAN rfl rfl ?_ | refine V_D rfl ?_) | ((with_reducible show VO _ _ _ _ _ _ _); first | refine O_step rfl ?_ | refine O_nil' ?_ | refine O_gT' rfl ?_ | refine O_gU' rfl ?_ | refine O_gF' rfl rfl ?_ | refine O_gEq rfl ?_ | refine O_gNe rfl ?_ | refine O_gS rfl (fun _ => ?_) (fun _ => ?_)) | ((with_reducible show VD _ _ _ _ _ _ _); first | refine D_step rfl ?_ | refine D_nil' ?_ | refine D_gT' rfl ?_ | refine D_gU' rfl ?_ | refine D_gF' rfl rfl ?_ | refine D_gS rfl (fun _ => ?_) (fun _ => ?_))
    rfl
  | cons c r =>
    have hbv : BV (.sl (byteCells (c :: r)) false) (c :: r) := .sl _ _
    have plv := hbv.pl
    have hcon := run_ContainsD hbv (by rw [← hb]; omega)
    have hch : ((c :: r) : List UInt8)[(0 : Int).toNat]? = some c := rfl
    by_cases hd : ∀ d ∈ c :: r, IsD d
    · rw [decide_eq_true hd] at hcon
      have hpi : ∀ v, piPV s = v → T.R (.call n_strconv_ParseInt [.str s, .int .i64 10, .int .i64 64] v) := fun v hv => .prim _ _ _ (.inr ⟨rfl, s, hs, rfl, hv.symm⟩)
      by_cases hc : c = 48
      · subst hc
        by_cases h0 : s = [48]
        · have hg : GoodD s := by
            refine ⟨by rw [hb]; simp, by rw [hb]; exact hd, fun _ => h0⟩
          rw [par_good hg]
          rcases piPV_good hg with ⟨hr, hv⟩ | ⟨hr, v, hv⟩
          · have hp := hpi _ hv
            have ht := told_in hr
            refine V_adv (hadv.trans rfl) ?_
            repeat' first | ((with_reducible show V _ _ _ _ _ _); first | refine V_O rfl ?_ | refine V_cT rfl rfl ?_ | refine V_cF rfl rfl ?_ | refine V_cEq rfl rfl ?_ | refine V_cNe rfl rfl ?_ | refine V_cB rfl rfl (fun _ => ?_) (fun _ => ?_) | refine V_fA rfl rfl ?_ | refine V_fAN rfl rfl ?_ | refine V_D rfl ?_) | ((with_reducible show VO _ _ _ _ _ _ _); first | refine O_chr 48 rfl rfl (by decide) hch ?_ | refine O_is (ndec_is h0) rfl ?_ | refine O_cA rfl rfl hcon ?_ | refine O_cA rfl rfl hp ?_ | refine O_cA rfl rfl ht ?_ | refine O_step rfl ?_ | refine O_nil' ?_ | refine O_gT' rfl ?_ | refine O_gU' rfl ?_ | refine O_gF' rfl rfl ?_ | refine O_gEq rfl ?_ | refine O_gNe rfl ?_ | refine O_gS rfl (fun _ => ?_) (fun _ => ?_)) | ((with_reducible show VD _ _ _ _ _ _ _); first | refine D_step rfl ?_ | refine D_nil' ?_ | refine D_gT' rfl ?_ | refine D_gU' rfl ?_ | refine D_gF' rfl rfl ?_ | refine D_gS rfl (fun _ => ?_) (fun _ => ?_))
            rfl
          · have hp := hpi _ hv
            have ht := told_out hr v
            refine V_adv (hadv.trans rfl) ?_
            repeat' first | ((with_reducible show V _ _ _ _ _ _); first | refine V_O rfl ?_ | refine V_cT rfl rfl ?_ | refine V_cF rfl rfl ?_ | refine V_cEq rfl rfl ?_ | refine V_cNe rfl rfl ?_ | refine V_cB rfl rfl (fun _ => ?_) (fun _ => ?_) | refine V_fA rfl rfl ?_ | refine V_fAN rfl rfl ?_ | refine V_D rfl ?_) | ((with_reducible show VO _ _ _ _ _ _ _); first | refine O_chr 48 rfl rfl (by decide) hch ?_ | refine O_is (ndec_is h0) rfl ?_ | refine O_cA rfl rfl hcon ?_ | refine O_cA rfl rfl hp ?_ | refine O_cA rfl rfl ht ?_ | refine O_step rfl ?_ | refine O_nil' ?_ | refine O_gT' rfl ?_ | refine O_gU' rfl ?_ | refine O_gF' rfl rfl ?_ | refine O_gEq rfl ?_ | refine O_gNe rfl ?_ | refine O_gS rfl (fun _ => ?_) (fun _ => ?_)) | ((with_reducible show VD _ _ _ _ _ _ _); first | refine D_step rfl ?_ | refine D_nil' ?_ | refine D_gT' rfl ?_ | refine D_gU' rfl ?_ | refine D_gF' rfl rfl ?_ | refine D_gS rfl (fun _ => ?_) (fun _ => ?_))
            rfl
        · have hg : ¬ GoodD s := fun h => h0 (h.2.2 (by rw [hb]; rfl))
          rw [par_bad hg]
          refine V_adv (hadv.trans rfl) ?_
          repeat' first | ((with_reducible show V _ _ _ _ _ _); first | refine V_O rfl ?_ | refine V_cT rfl rfl ?_ | refine V_cF rfl rfl ?_ | refine V_cEq rfl rfl ?_ | refine V_cNe rfl rfl ?_ | refine V_cB rfl rfl (fun _ => ?_) (fun _ => ?_) | refine V_fA rfl rfl ?_ | refine V_fAN rfl rfl ?_ | refine V_D rfl ?_) | ((with_reducible show VO _ _ _ _ _ _ _); first | refine O_chr 48 rfl rfl (by decide) hch ?_ | refine O_is (ndec_not h0) rfl ?_ | refine O_cA rfl rfl hcon ?_ | refine O_step rfl ?_ | refine O_nil' ?_ | refine O_gT' rfl ?_ | refine O_gU' rfl ?_ | refine O_gF' rfl rfl ?_ | refine O_gEq rfl ?_ | refine O_gNe rfl ?_ | refine O_gS rfl (fun _ => ?_) (fun _ => ?_)) | ((with_reducible show VD _ _ _ _ _ _ _); first | refine D_step rfl ?_ | refine D_nil' ?_ | refine D_gT' rfl ?_ | refine D_gU' rfl ?_ | refine D_gF' rfl rfl ?_ | refine D_gS rfl (fun _ => ?_) (fun _ => ?_))
          rfl
      · have hc' : ¬ (c.toNat : Int) = 48 := fun e => hc (UInt8.toNat_inj.1 (by have : (48 : UInt8).toNat = 48 := rfl; omega))
        have hg : GoodD s := by
          refine ⟨by rw [hb]; simp, by rw [hb]; exact hd, fun h => ?_⟩
          rw [hb] at h
          injection h with h
          exact absurd h hc
        rw [par_good hg]
        rcases piPV_good hg with ⟨hr, hv⟩ | ⟨hr, v, hv⟩
        · have hp := hpi _ hv
          have ht := told_in hr
          refine V_adv (hadv.trans rfl) ?_
          repeat' first | ((with_reducible show V _ _ _ _ _ _); first | refine V_O rfl ?_ | refine V_cT rfl rfl ?_ | refine V_cF rfl rfl ?_ | refine V_cEq rfl rfl ?_ | refine V_cNe rfl rfl ?_ | refine V_cB rfl rfl (fun _ => ?_) (fun _ => ?_) | refine V_fA rfl rfl ?_ | refine V_fAN rfl rfl ?_ | refine V_D rfl ?_) | ((with_reducible show VO _ _ _ _ _ _ _); first | refine O_chr c rfl rfl (by decide) hch ?_ | refine O_is (dec_not hc') rfl ?_ | refine O_cA rfl rfl hcon ?_ | refine O_cA rfl rfl hp ?_ | refine O_cA rfl rfl ht ?_ | refine O_step rfl ?_ | refine O_nil' ?_ | refine O_gT' rfl ?_ | refine O_gU' rfl ?_ | refine O_gF' rfl rfl ?_ | refine O_gEq rfl ?_ | refine O_gNe rfl ?_ | refine O_gS rfl (fun _ => ?_) (fun _ => ?_)) | ((with_reducible show VD _ _ _ _ _ _ _); first | refine D_step rfl ?_ | refine D_nil' ?_ | refine D_gT' rfl ?_ | refine D_gU' rfl ?_ | refine D_gF' rfl rfl ?_ | refine D_gS rfl (fun _ => ?_) (fun _ => ?_))
          rfl
        · have hp := hpi _ hv
          have ht := told_out hr v
          refine V_adv (hadv.trans rfl) ?_
          repeat' first | ((with_reducible show V _ _ _ _ _ _); first | refine V_O rfl ?_ | refine V_cT rfl rfl ?_ | refine V_cF rfl rfl ?_ | refine V_cEq rfl rfl ?_ | refine V_cNe rfl rfl ?_ | refine V_cB rfl rfl (fun _ => ?_) (fun _ => ?_) | refine V_fA rfl rfl ?_ | refine V_fAN rfl rfl ?_ | refine V_D rfl ?_) | ((with_reducible show VO _ _ _ _ _ _ _); first | refine O_chr c rfl rfl (by decide) hch ?_ | refine O_is (dec_not hc') rfl ?_ | refine O_cA rfl rfl hcon ?_ | refine O_cA rfl rfl hp ?_ | refine O_cA rfl rfl ht ?_ | refine O_step rfl ?_ | refine O_nil' ?_ | refine O_gT' rfl ?_ | refine O_gU' rfl ?_ | refine O_gF' rfl rfl ?_ | refine O_gEq rfl ?_ | refine O_gNe rfl ?_ | refine O_gS rfl (fun _ => ?_) (fun _ => ?_)) | ((with_reducible show VD _ _ _ _ _ _ _); first | refine D_step rfl ?_ | refine D_nil' ?_ | refine D_gT' rfl ?_ | refine D_gU' rfl ?_ | refine D_gF' rfl rfl ?_ | refine D_gS rfl (fun _ => ?_) (fun _ => ?_))
          rfl
    · rw [decide_eq_false hd] at hcon
      have hg : ¬ GoodD s := fun h => hd (by rw [← hb]; exact h.2.1)
      rw [par_bad hg]
      refine V_adv (hadv.trans rfl) ?_
      repeat' first | ((with_reducible show V _ _ _ _ _ _); first | refine V_O rfl ?_ | refine V_cT rfl rfl ?_ | refine V_cF rfl rfl ?_ | refine V_cEq rfl rfl ?_ | refine V_cNe rfl rfl ?_ | refine V_cB rfl rfl (fun _ => ?_) (fun _ => ?_) | refine V_fA rfl rfl ?_ | refine V_fAN rfl rfl ?_ | refine V_D rfl ?_) | ((with_reducible show VO _ _ _ _ _ _ _); first | refine O_cA rfl rfl hcon ?_ | refine O_step rfl ?_ | refine O_nil' ?_ | refine O_gT' rfl ?_ | refine O_gU' rfl ?_ | refine O_gF' rfl rfl ?_ | refine O_gEq rfl ?_ | refine O_gNe rfl ?_ | refine O_gS rfl (fun _ => ?_) (fun _ => ?_)) | ((with_reducible show VD _ _ _ _ _ _ _); first | refine D_step rfl ?_ | refine D_nil' ?_ | refine D_gT' rfl ?_ | refine D_gU' rfl ?_ | refine D_gF' rfl rfl ?_ | refine D_gS rfl (fun _ => ?_) (fun _ => ?_))
      rfl
theorem run_Parse {s : List UInt8} (hs : s.length ≤ 281474976710656) : T.R (.call n_num_Parse [.str s] (two (parT s))) := by
  have h2 := par2 hs
  cases s with
  | nil =>
    refine call_V rfl rfl ?_
    repeat' first | ((with_reducible show V _ _ _ _ _ _); first | refine V_re rfl (h2 _ _ rfl) ⟨rfl, rfl, trivial⟩ | refine V_O rfl ?_ | refine V_cT rfl rfl ?_ | refine V_cF rfl rfl ?_ | refine V_cEq rfl rfl ?_ | refine V_cNe rfl rfl ?_ | refine V_cB rfl rfl (fun _ => ?_) (fun _ => ?_) | refine V_fA rfl rfl ?_ | refine V_fAN rfl rfl ?_ | refine V_D rfl ?_) | ((with_reducible show VO _ _ _ _ _ _ _); first | refine O_step rfl ?_ | refine O_nil' ?_ | refine O_gT' rfl ?_ | refine O_gU' rfl ?_ | refine O_gF' rfl rfl ?_ | refine O_gEq rfl ?_ | refine O_gNe rfl ?_ | refine O_gS rfl (fun _ => ?_) (fun _ => ?_)) | ((with_reducible show VD _ _ _ _ _ _ _); first | refine D_step rfl ?_ | refine D_nil' ?_ | refine D_gT' rfl ?_ | refine D_gU' rfl ?_ | refine D_gF' rfl rfl ?_ | refine D_gS rfl (fun _ => ?_) (fun _ => ?_))
  | cons c r =>
    have hch : ((c :: r) : List UInt8)[(0 : Int).toNat]? = some c := rfl
    by_cases hc : c = 45
    · subst hc
      have hsl : ∀ look : Nat → Option Tok, sliceStr? (some (.int .i64 1)) none (.str (45 :: r)) = some (.str r) := fun _ => by
        simp [sliceStr?, bound?, int?]
        omega
      refine call_V rfl rfl ?_
      repeat' first | ((with_reducible show V _ _ _ _ _ _); first | refine V_re rfl (h2 _ _ rfl) ⟨rfl, rfl, trivial⟩ | refine V_O rfl ?_ | refine V_cT rfl rfl ?_ | refine V_cF rfl rfl ?_ | refine V_cEq rfl rfl ?_ | refine V_cNe rfl rfl ?_ | refine V_cB rfl rfl (fun _ => ?_) (fun _ => ?_) | refine V_fA rfl rfl ?_ | refine V_fAN rfl rfl ?_ | refine V_D rfl ?_) | ((with_reducible show VO _ _ _ _ _ _ _); first | refine O_chr 45 rfl rfl (by decide) hch ?_ | refine O_step (hsl (fun _ => none)) ?_ | refine O_step rfl ?_ | refine O_nil' ?_ | refine O_gT' rfl ?_ | refine O_gU' rfl ?_ | refine O_gF' rfl rfl ?_ | refine O_gEq rfl ?_ | refine O_gNe rfl ?_ | refine O_gS rfl (fun _ => ?_) (fun _ => ?_)) | ((with_reducible show VD _ _ _ _ _ _ _); first | refine D_step rfl ?_ | refine D_nil' ?_ | refine D_gT' rfl ?_ | refine D_gU' rfl ?_ | refine D_gF' rfl rfl ?_ | refine D_gS rfl (fun _ => ?_) (fun _ => ?_))
    · have hc' : ¬ (c.toNat : Int) = 45 := fun e => hc (UInt8.toNat_inj.1 (by have : (45 : UInt8).toNat = 45 := rfl; omega))
      have hbd : bodyD (c :: r) = c :: r := by unfold bodyD; rw [if_neg (by simp [hc])]
      rw [hbd] at h2
      refine call_V rfl rfl ?_
      repeat' first | ((with_reducible show V _ _ _ _ _ _); first | refine V_re rfl (h2 _ _ rfl) ⟨rfl, rfl, trivial⟩ | refine V_O rfl ?_ | refine V_cT rfl rfl ?_ | refine V_cF rfl rfl ?_ | refine V_cEq rfl rfl ?_ | refine V_cNe rfl rfl ?_ | refine V_cB rfl rfl (fun _ => ?_) (fun _ => ?_) | refine V_fA rfl rfl ?_ | refine V_fAN rfl rfl ?_ | refine V_D rfl ?_) | ((with_reducible show VO _ _ _ _ _ _ _); first | refine O_chr c rfl rfl (by decide) hch ?_ | refine O_is (dec_not hc') rfl ?_ | refine O_step rfl ?_ | refine O_nil' ?_ | refine O_gT' rfl ?_ | refine O_gU' rfl ?_ | refine O_gF' rfl rfl ?_ | refine O_gEq rfl ?_ | refine O_gNe rfl ?_ | refine O_gS rfl (fun _ => ?_) (fun _ => ?_)) | ((with_reducible show VD _ _ _ _ _ _ _); first | refine D_step rfl ?_ | refine D_nil' ?_ | refine D_gT' rfl ?_ | refine D_gU' rfl ?_ | refine D_gF' rfl rfl ?_ | refine D_gS rfl (fun _ => ?_) (fun _ => ?_))
end Go.Proofs.YtbeaalkfakjoiaaDoor

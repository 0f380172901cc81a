/- Numbers: an answer or none, told; without their signs, and signed again. · A number's digits, and the number of a text, over plain values: the library's functions and this page's. · num.Text, num.Parse. · rambleref01.Parse. · rambleref01.Digits and Text. · strings.Index, Contains, Cut, Count, Split: at a separator of one byte. · strings.Cut at one byte. -/
import Derived.Test.YtbeaalkfakjoiaaDoorT
import Derived.Lib.ItoaNum
import Derived.Lib.ParseIntBTie
import Derived.Test.YtbeaalkfakjoiaaDoorAmZ
set_option linter.unusedVariables false
set_option linter.unusedSimpArgs false
namespace Go.Proofs.YtbeaalkfakjoiaaDoor
open Go Go.AM Go.RowKit
def R64 (a : Int) : Prop := -9223372036854775808 ≤ a ∧ a ≤ 9223372036854775807
theorem wr {a : Int} (h : R64 a) : IntKind.i64.wrap a = a := by unfold R64 at h; rw [wrap_i64]; omega
def ans (x : Int) : Int × Int := if -9223372036854775808 ≤ x ∧ x ≤ 9223372036854775807 then (x, 0) else (0, 7)
def two (x : Int × Int) : PV := .tuple [.int .i64 x.1, .int .i64 x.2]
theorem run_told (a : Int) (b : Bool) : T.R (.call n_num_told [.int .i64 a, .bool b] (two (if b = true then (a, 0) else (0, 7)))) := by
  refine call_V rfl rfl ?_
  repeat' first | ((with_reducible show V _ _ _ _ _ _); first | refine V_O rfl ?_ | refine V_cT rfl rfl ?_ | refine V_cF rfl rfl ?_ | refine V_cEq rfl rfl ?_ | refine V_cNe rfl rfl ?_ | refine V_cB rfl rfl (fun _ => ?_) (fun _ => ?_) | refine V_fA rfl rfl ?_ | refine V_fAN rfl rfl ?_ | refine V_D rfl ?_) | ((with_reducible show VO _ _ _ _ _ _ _); first | refine O_step rfl ?_ | refine O_nil' ?_ | refine O_gT' rfl ?_ | refine O_gU' rfl ?_ | refine O_gF' rfl rfl ?_ | refine O_gEq rfl ?_ | refine O_gNe rfl ?_ | refine O_gS rfl (fun _ => ?_) (fun _ => ?_)) | ((with_reducible show VD _ _ _ _ _ _ _); first | refine D_step rfl ?_ | refine D_nil' ?_ | refine D_gT' rfl ?_ | refine D_gU' rfl ?_ | refine D_gF' rfl rfl ?_ | refine D_gS rfl (fun _ => ?_) (fun _ => ?_))
  all_goals simp_all [two]
end Go.Proofs.YtbeaalkfakjoiaaDoor
set_option linter.unusedVariables false
set_option linter.unusedSimpArgs false
namespace Go.Proofs.YtbeaalkfakjoiaaDoor
open Go Go.AM Go.RowKit
abbrev IsD (c : UInt8) : Prop := 48 ≤ c.toNat ∧ c.toNat ≤ 57
def digV (a : Nat) (c : UInt8) : Nat := a * 10 + (c.toNat - 48)
def valD (a : Nat) (l : List UInt8) : Nat := l.foldl digV a
theorem valD_nil (a : Nat) : valD a [] = a := rfl
theorem valD_cons (a : Nat) (c : UInt8) (r : List UInt8) : valD a (c :: r) = valD (a * 10 + (c.toNat - 48)) r := by unfold valD; rw [List.foldl_cons]; rfl
theorem valD_le (l : List UInt8) : ∀ a : Nat, a ≤ valD a l := by
  induction l with
  | nil => intro a; rw [valD_nil]; exact Nat.le_refl _
  | cons c r ih =>
    intro a
    have h := ih (a * 10 + (c.toNat - 48))
    rw [valD_cons]
    omega
theorem valD_snoc (l : List UInt8) (c : UInt8) : ∀ a : Nat, valD a (l ++ [c]) = valD a l * 10 + (c.toNat - 48) := by
  intro a
  unfold valD
  rw [List.foldl_append]
  rfl
def bodyD (s : List UInt8) : List UInt8 := if s.head? = some 45 then s.tail else s
def sgnD (s : List UInt8) : Int := if s.head? = some 45 then -(valD 0 (bodyD s) : Int) else valD 0 (bodyD s)
def GoodD (s : List UInt8) : Prop := bodyD s ≠ [] ∧ (∀ c ∈ bodyD s, IsD c) ∧ ((bodyD s).head? = some 48 → s = [48])
noncomputable instance (s : List UInt8) : Decidable (GoodD s) := Classical.propDecidable _
instance (n : Int) : Decidable (R64 n) := by unfold R64; exact inferInstance
noncomputable def parT (s : List UInt8) : Int × Int := if GoodD s then ans (sgnD s) else (0, 10)
open Go.Lib in
theorem parseUint10_dig (l : List UInt8) : ∀ a : Nat, (∀ c ∈ l, IsD c) → a < 18446744073709551616 → parseUint10 a l = if valD a l < 18446744073709551616 then .ok (valD a l) else .range := by
  induction l with
  | nil => intro a h ha; rw [parseUint10, valD_nil, if_pos ha]
  | cons c r ih =>
    intro a h ha
    have hc := h c (by simp)
    unfold IsD at hc
    have hle := valD_le r (a * 10 + (c.toNat - 48))
    rw [parseUint10, valD_cons, if_pos hc]
    by_cases h1 : 1844674407370955162 ≤ a
    · rw [if_pos h1, if_neg (by omega)]
    · rw [if_neg h1]
      by_cases h2 : 18446744073709551616 ≤ a * 10 + (c.toNat - 48)
      · rw [if_pos h2, if_neg (by omega)]
      · rw [if_neg h2]
        exact ih _ (fun d hd => h d (by simp [hd])) (by omega)
open Go.Lib in
theorem parseInt_dig {s : List UInt8} (h : GoodD s) : parseIntB 64 s = if R64 (sgnD s) then .ok (sgnD s) else .range := by
  obtain ⟨h1, h2, _⟩ := h
  rw [parseIntB_64]
  cases s with
  | nil => exact absurd rfl h1
  | cons c r =>
    by_cases h45 : c = 45
    · subst h45
      have hb : bodyD (45 :: r) = r := rfl
      have hs : sgnD (45 :: r) = -(valD 0 r : Int) := rfl
      rw [hb] at h1 h2
      rw [hs, atoiAll_minus, parseMag, if_neg h1, parseUint10_dig r 0 h2 (by decide)]
      by_cases hlt : valD 0 r < 18446744073709551616
      · rw [if_pos hlt]
        simp only [Lib.signed]
        by_cases h3 : 9223372036854775808 < valD 0 r
        · rw [if_pos h3, if_neg (by unfold R64; omega)]
        · rw [if_neg h3, if_pos (by unfold R64; omega)]
      · rw [if_neg hlt, if_neg (by unfold R64; omega)]
        rfl
    · have hh : (c :: r).head? ≠ some 45 := by simp [h45]
      have hb : bodyD (c :: r) = c :: r := by unfold bodyD; rw [if_neg hh]
      have hs : sgnD (c :: r) = (valD 0 (c :: r) : Int) := by unfold sgnD; rw [if_neg hh, hb]
      rw [hb] at h2
      have hc := h2 c (by simp)
      unfold IsD at hc
      rw [hs, atoiAll_plain c r (by omega) (by omega), parseMag, if_neg (by simp), parseUint10_dig (c :: r) 0 h2 (by decide)]
      by_cases hlt : valD 0 (c :: r) < 18446744073709551616
      · rw [if_pos hlt]
        simp only [Lib.signless]
        by_cases h3 : 9223372036854775808 ≤ valD 0 (c :: r)
        · rw [if_pos h3, if_neg (by unfold R64; omega)]
        · rw [if_neg h3, if_pos (by unfold R64; omega)]
      · rw [if_neg hlt, if_neg (by unfold R64; omega)]
        rfl
open Go.Lib in
theorem dec_snoc {u : Nat} (h : ¬ u < 10) : decDigits u = decDigits (u / 10) ++ [UInt8.ofNat (48 + u % 10)] := by
  rw [decDigits, dif_neg h]
open Go.Lib in
theorem dec_small {u : Nat} (h : u < 10) : decDigits u = [UInt8.ofNat (48 + u)] := by
  rw [decDigits, dif_pos h]
theorem dig_nat {d : Nat} (h : d < 10) : (UInt8.ofNat (48 + d)).toNat = 48 + d := by simp; omega
open Go.Lib in
theorem dec_good (u : Nat) : decDigits u ≠ [] ∧ (∀ c ∈ decDigits u, IsD c) ∧ valD 0 (decDigits u) = u ∧ ((decDigits u).head? = some 48 → u = 0) := by
  induction u using Nat.strongRecOn with
  | _ u ih =>
    by_cases h : u < 10
    · rw [dec_small h]
      refine ⟨by simp, fun c hc => ?_, ?_, fun hh => ?_⟩
      · simp only [List.mem_singleton] at hc
        subst hc
        unfold IsD
        rw [dig_nat h]
        omega
      · rw [valD_cons, valD_nil, dig_nat h]
        omega
      · injection hh with hh
        have := congrArg UInt8.toNat hh
        rw [dig_nat h] at this
        have h48 : (48 : UInt8).toNat = 48 := rfl
        omega
    · obtain ⟨i1, i2, i3, i4⟩ := ih (u / 10) (by omega)
      have hd := dig_nat (d := u % 10) (by omega)
      rw [dec_snoc h]
      refine ⟨by simp, fun c hc => ?_, ?_, fun hh => ?_⟩
      · rcases List.mem_append.1 hc with hc | hc
        · exact i2 c hc
        · simp only [List.mem_singleton] at hc
          subst hc
          unfold IsD
          rw [hd]
          omega
      · rw [valD_snoc, i3, hd]
        omega
      · cases hl : decDigits (u / 10) with
        | nil => exact absurd hl i1
        | cons a l =>
          rw [hl] at hh i4
          have := i4 hh
          omega
open Go.Lib in
theorem itoa_good {n : Int} (h : R64 n) : parT (itoa n) = (n, 0) := by
  have hA : ans n = (n, 0) := by unfold R64 at h; unfold ans; rw [if_pos h]
  unfold itoa
  by_cases hn : n < 0
  · rw [if_pos hn]
    obtain ⟨i1, i2, i3, i4⟩ := dec_good n.natAbs
    have hb : bodyD (45 :: decDigits n.natAbs) = decDigits n.natAbs := rfl
    have hs : sgnD (45 :: decDigits n.natAbs) = n := by
      show -(valD 0 (decDigits n.natAbs) : Int) = n
      rw [i3]
      omega
    have hg : GoodD (45 :: decDigits n.natAbs) := by
      refine ⟨by rw [hb]; exact i1, by rw [hb]; exact i2, fun hh => ?_⟩
      rw [hb] at hh
      have := i4 hh
      omega
    unfold parT
    rw [if_pos hg, hs, hA]
  · rw [if_neg hn]
    obtain ⟨i1, i2, i3, i4⟩ := dec_good n.toNat
    have hh : (decDigits n.toNat).head? ≠ some 45 := by
      cases hl : decDigits n.toNat with
      | nil => simp
      | cons a l =>
        have := i2 a (by rw [hl]; simp)
        unfold IsD at this
        intro h
        injection h with h
        subst h
        have h45 : (45 : UInt8).toNat = 45 := rfl
        omega
    have hb : bodyD (decDigits n.toNat) = decDigits n.toNat := by unfold bodyD; rw [if_neg hh]
    have hs : sgnD (decDigits n.toNat) = n := by
      unfold sgnD
      rw [if_neg hh, hb, i3]
      omega
    have hg : GoodD (decDigits n.toNat) := by
      refine ⟨by rw [hb]; exact i1, by rw [hb]; exact i2, fun hh => ?_⟩
      rw [hb] at hh
      have := i4 hh
      rw [this, dec_small (by omega)]
      rfl
    unfold parT
    rw [if_pos hg, hs, hA]
end Go.Proofs.YtbeaalkfakjoiaaDoor
set_option linter.unusedVariables false
set_option linter.unusedSimpArgs false
namespace Go.Proofs.YtbeaalkfakjoiaaDoor
open Go Go.AM Go.RowKit
theorem run_FormatInt {n : Int} (h : R64 n) : T.R (.call n_strconv_FormatInt [.int .i64 n, .int .i64 10] (.str (Lib.itoa n))) := .prim _ _ _ (.inl ⟨rfl, n, h.1, h.2, rfl, rfl⟩)
theorem run_Text {n : Int} (h : R64 n) : T.R (.call n_num_Text [.int .i64 n] (.str (Lib.itoa n))) := by
  have hf := run_FormatInt h
  refine call_V rfl rfl ?_
  repeat' first | ((with_reducible show V _ _ _ _ _ _); first | refine V_O rfl ?_ | refine V_cT rfl rfl ?_ | refine V_cF rfl rfl ?_ | refine V_cEq rfl rfl ?_ | refine V_cNe rfl rfl ?_ | refine V_cB rfl rfl (fun _ => ?_) (fun _ => ?_) | refine V_fA rfl rfl ?_ | refine V_fAN rfl rfl ?_ | refine V_D rfl ?_) | ((with_reducible show VO _ _ _ _ _ _ _); first | refine O_cA rfl rfl hf ?_ | refine O_step rfl ?_ | refine O_nil' ?_ | refine O_gT' rfl ?_ | refine O_gU' rfl ?_ | refine O_gF' rfl rfl ?_ | refine O_gEq rfl ?_ | refine O_gNe rfl ?_ | refine O_gS rfl (fun _ => ?_) (fun _ => ?_)) | ((with_reducible show VD _ _ _ _ _ _ _); first | refine D_step rfl ?_ | refine D_nil' ?_ | refine D_gT' rfl ?_ | refine D_gU' rfl ?_ | refine D_gF' rfl rfl ?_ | refine D_gS rfl (fun _ => ?_) (fun _ => ?_))
  rfl
theorem run_notD (c : UInt8) : T.R (.call n_num_Parse_1 [.int .u8 c.toNat] (.bool (!decide (IsD c)))) := by
  refine call_V rfl rfl ?_
  repeat' first | ((with_reducible show V _ _ _ _ _ _); first | refine V_O rfl ?_ | refine V_cT rfl rfl ?_ | refine V_cF rfl rfl ?_ | refine V_cEq rfl rfl ?_ | refine V_cNe rfl rfl ?_ | refine V_cB rfl rfl (fun _ => ?_) (fun _ => ?_) | refine V_fA rfl rfl ?_ | refine V_fAN rfl rfl ?_ | refine V_D rfl ?_) | ((with_reducible show VO _ _ _ _ _ _ _); first | refine O_step rfl ?_ | refine O_nil' ?_ | refine O_gT' rfl ?_ | refine O_gU' rfl ?_ | refine O_gF' rfl rfl ?_ | refine O_gEq rfl ?_ | refine O_gNe rfl ?_ | refine O_gS rfl (fun _ => ?_) (fun _ => ?_)) | ((with_reducible show VD _ _ _ _ _ _ _); first | refine D_step rfl ?_ | refine D_nil' ?_ | refine D_gT' rfl ?_ | refine D_gU' rfl ?_ | refine D_gF' rfl rfl ?_ | refine D_gS rfl (fun _ => ?_) (fun _ => ?_))
  all_goals congr 1
  all_goals simp only [Bool.not_false, decide_eq_true_eq, decide_eq_false_iff_not] at *
  all_goals first | (rw [decide_eq_false (p := IsD c) (fun h => by have := h.1; omega)]; rfl) | (by_cases h2 : c.toNat ≤ 57; (· rw [decide_eq_true (p := IsD c) ⟨by omega, h2⟩, decide_eq_false (by omega)]; rfl); (· rw [decide_eq_false (p := IsD c) (fun h => h2 h.2), decide_eq_true (by omega)]; rfl))
def idxDP (b : List UInt8) : EX → EC → St → Prop := fun x e st => st = emptySt ∧ ((x = .exit 0 ∧ e = .nil ∧ ∀ c ∈ b, IsD c) ∨ (x = .ret ∧ ∃ i : Nat, e = ecOf [(4, .int .i64 i)] ∧ ¬ ∀ c ∈ b, IsD c))
theorem idxD_loop {p : PV} {b : List UInt8} (hp : BV p b) (hb : b.length ≤ 9223372036854775800) : ∀ (rest pre : List UInt8), b = pre ++ rest → (∀ c ∈ pre, IsD c) →
    V T (PE (idxDP b)) [.code (.loop lp_slices_IndexFunc_byte_byte_0)] .normal (ecOf [(0, p), (1, .func n_num_Parse_1 []), (7, .int .i64 b.length), (8, .int .i64 pre.length)]) emptySt := by
  intro rest
  induction rest with
  | nil =>
    intro pre hl hpre
    have hlt : decide ((pre.length : Int) < b.length) = false := decide_eq_false (by subst hl; simp)
    refine V_unroll ?_
    repeat' first | ((with_reducible show V _ _ _ _ _ _); first | refine V_cH hlt rfl rfl ?_ | refine V_out [] rfl trivial ⟨rfl, .inl ⟨rfl, rfl, by rw [hl, List.append_nil]; exact hpre⟩⟩ | refine V_O rfl ?_ | refine V_cT rfl rfl ?_ | refine V_cF rfl rfl ?_ | refine V_cEq rfl rfl ?_ | refine V_cNe rfl rfl ?_ | refine V_cB rfl rfl (fun _ => ?_) (fun _ => ?_) | refine V_fA rfl rfl ?_ | refine V_fAN rfl rfl ?_ | refine V_D rfl ?_) | ((with_reducible show VO _ _ _ _ _ _ _); first | refine O_step rfl ?_ | refine O_nil' ?_ | refine O_gT' rfl ?_ | refine O_gU' rfl ?_ | refine O_gF' rfl rfl ?_ | refine O_gEq rfl ?_ | refine O_gNe rfl ?_ | refine O_gS rfl (fun _ => ?_) (fun _ => ?_)) | ((with_reducible show VD _ _ _ _ _ _ _); first | refine D_step rfl ?_ | refine D_nil' ?_ | refine D_gT' rfl ?_ | refine D_gU' rfl ?_ | refine D_gF' rfl rfl ?_ | refine D_gS rfl (fun _ => ?_) (fun _ => ?_))
  | cons c rest ih =>
    intro pre hl hpre
    have hlt : decide ((pre.length : Int) < b.length) = true := decide_eq_true (by subst hl; simp; omega)
    have hat := hp.at (n := (pre.length : Int)) (b := c) (by omega) (by subst hl; simp)
    have hn := run_notD c
    have hpl : pre.length < b.length := by subst hl; simp
    refine V_unroll ?_
    by_cases hd : IsD c
    · rw [decide_eq_true hd] at hn
      have hw : IntKind.i64.wrap ((pre.length : Int) + 1) = ((pre ++ [c]).length : Int) := by rw [wrap_i64]; simp; omega
      have hi := ih (pre ++ [c]) (by rw [hl]; simp) (fun d h => by rcases List.mem_append.1 h with h | h; exact hpre d h; simp only [List.mem_singleton] at h; rw [h]; exact hd)
      repeat' first | ((with_reducible show V _ _ _ _ _ _); first | refine V_cHT hlt rfl rfl ?_ | refine V_re rfl hi ⟨rfl, rfl, rfl, some_int hw, trivial⟩ | refine V_O rfl ?_ | refine V_cT rfl rfl ?_ | refine V_cF rfl rfl ?_ | refine V_cEq rfl rfl ?_ | refine V_cNe rfl rfl ?_ | refine V_cB rfl rfl (fun _ => ?_) (fun _ => ?_) | refine V_fA rfl rfl ?_ | refine V_fAN rfl rfl ?_ | refine V_D rfl ?_) | ((with_reducible show VO _ _ _ _ _ _ _); first | refine O_at rfl rfl hat ?_ | refine O_cA rfl rfl hn ?_ | refine O_step rfl ?_ | refine O_nil' ?_ | refine O_gT' rfl ?_ | refine O_gU' rfl ?_ | refine O_gF' rfl rfl ?_ | refine O_gEq rfl ?_ | refine O_gNe rfl ?_ | refine O_gS rfl (fun _ => ?_) (fun _ => ?_)) | ((with_reducible show VD _ _ _ _ _ _ _); first | refine D_step rfl ?_ | refine D_nil' ?_ | refine D_gT' rfl ?_ | refine D_gU' rfl ?_ | refine D_gF' rfl rfl ?_ | refine D_gS rfl (fun _ => ?_) (fun _ => ?_))
    · rw [decide_eq_false hd] at hn
      repeat' first | ((with_reducible show V _ _ _ _ _ _); first | refine V_cHT hlt rfl rfl ?_ | refine V_out [(4, .int .i64 pre.length)] rfl ⟨rfl, trivial⟩ ⟨rfl, .inr ⟨rfl, pre.length, rfl, fun h => hd (h c (by rw [hl]; simp))⟩⟩ | refine V_O rfl ?_ | refine V_cT rfl rfl ?_ | refine V_cF rfl rfl ?_ | refine V_cEq rfl rfl ?_ | refine V_cNe rfl rfl ?_ | refine V_cB rfl rfl (fun _ => ?_) (fun _ => ?_) | refine V_fA rfl rfl ?_ | refine V_fAN rfl rfl ?_ | refine V_D rfl ?_) | ((with_reducible show VO _ _ _ _ _ _ _); first | refine O_at rfl rfl hat ?_ | refine O_cA rfl rfl hn ?_ | refine O_step rfl ?_ | refine O_nil' ?_ | refine O_gT' rfl ?_ | refine O_gU' rfl ?_ | refine O_gF' rfl rfl ?_ | refine O_gEq rfl ?_ | refine O_gNe rfl ?_ | refine O_gS rfl (fun _ => ?_) (fun _ => ?_)) | ((with_reducible show VD _ _ _ _ _ _ _); first | refine D_step rfl ?_ | refine D_nil' ?_ | refine D_gT' rfl ?_ | refine D_gU' rfl ?_ | refine D_gF' rfl rfl ?_ | refine D_gS rfl (fun _ => ?_) (fun _ => ?_))
theorem run_ContainsD {p : PV} {b : List UInt8} (hp : BV p b) (hb : b.length ≤ 9223372036854775800) : T.R (.call n_slices_ContainsFunc_byte_byte [p, .func n_num_Parse_1 []] (.bool (!decide (∀ c ∈ b, IsD c)))) := by
  have plp := hp.pl
  have hl := idxD_loop hp hb b [] rfl (fun c h => by cases h)
  have key : ∃ r, T.R (.call n_slices_IndexFunc_byte_byte [p, .func n_num_Parse_1 []] r) ∧ ∃ i : Int, r = .int .i64 i ∧ decide (0 ≤ i) = !decide (∀ c ∈ b, IsD c) := by
    refine call_VQ rfl rfl ?_
    repeat' first | ((with_reducible show V _ _ _ _ _ _); first | refine V_cutTo rfl hl ⟨rfl, rfl, rfl, rfl, trivial⟩ ?_ | refine V_O rfl ?_ | refine V_cT rfl rfl ?_ | refine V_cF rfl rfl ?_ | refine V_cEq rfl rfl ?_ | refine V_cNe rfl rfl ?_ | refine V_cB rfl rfl (fun _ => ?_) (fun _ => ?_) | refine V_fA rfl rfl ?_ | refine V_fAN rfl rfl ?_ | refine V_D rfl ?_) | ((with_reducible show VO _ _ _ _ _ _ _); first | refine O_lenB rfl hp ?_ | refine O_step rfl ?_ | refine O_nil' ?_ | refine O_gT' rfl ?_ | refine O_gU' rfl ?_ | refine O_gF' rfl rfl ?_ | refine O_gEq rfl ?_ | refine O_gNe rfl ?_ | refine O_gS rfl (fun _ => ?_) (fun _ => ?_)) | ((with_reducible show VD _ _ _ _ _ _ _); first | refine D_step rfl ?_ | refine D_nil' ?_ | refine D_gT' rfl ?_ | refine D_gU' rfl ?_ | refine D_gF' rfl rfl ?_ | refine D_gS rfl (fun _ => ?_) (fun _ => ?_))
    rintro x e' st' ⟨rfl, ⟨rfl, rfl, h⟩ | ⟨rfl, i, rfl, h⟩⟩
    · repeat' first | ((with_reducible show V _ _ _ _ _ _); first | refine V_O rfl ?_ | refine V_cT rfl rfl ?_ | refine V_cF rfl rfl ?_ | refine V_cEq rfl rfl ?_ | refine V_cNe rfl rfl ?_ | refine V_cB rfl rfl (fun _ => ?_) (fun _ => ?_) | refine V_fA rfl rfl ?_ | refine V_fAN rfl rfl ?_ | refine V_D rfl ?_) | ((with_reducible show VO _ _ _ _ _ _ _); first | refine O_step rfl ?_ | refine O_nil' ?_ | refine O_gT' rfl ?_ | refine O_gU' rfl ?_ | refine O_gF' rfl rfl ?_ | refine O_gEq rfl ?_ | refine O_gNe rfl ?_ | refine O_gS rfl (fun _ => ?_) (fun _ => ?_)) | ((with_reducible show VD _ _ _ _ _ _ _); first | refine D_step rfl ?_ | refine D_nil' ?_ | refine D_gT' rfl ?_ | refine D_gU' rfl ?_ | refine D_gF' rfl rfl ?_ | refine D_gS rfl (fun _ => ?_) (fun _ => ?_))
      exact ⟨-1, rfl, by rw [decide_eq_true h]; rfl⟩
    · repeat' first | ((with_reducible show V _ _ _ _ _ _); first | refine V_O rfl ?_ | refine V_cT rfl rfl ?_ | refine V_cF rfl rfl ?_ | refine V_cEq rfl rfl ?_ | refine V_cNe rfl rfl ?_ | refine V_cB rfl rfl (fun _ => ?_) (fun _ => ?_) | refine V_fA rfl rfl ?_ | refine V_fAN rfl rfl ?_ | refine V_D rfl ?_) | ((with_reducible show VO _ _ _ _ _ _ _); first | refine O_step rfl ?_ | refine O_nil' ?_ | refine O_gT' rfl ?_ | refine O_gU' rfl ?_ | refine O_gF' rfl rfl ?_ | refine O_gEq rfl ?_ | refine O_gNe rfl ?_ | refine O_gS rfl (fun _ => ?_) (fun _ => ?_)) | ((with_reducible show VD _ _ _ _ _ _ _); first | refine D_step rfl ?_ | refine D_nil' ?_ | refine D_gT' rfl ?_ | refine D_gU' rfl ?_ | refine D_gF' rfl rfl ?_ | refine D_gS rfl (fun _ => ?_) (fun _ => ?_))
      exact ⟨i, rfl, by rw [decide_eq_false h, decide_eq_true (by omega)]; rfl⟩
  obtain ⟨r, h1, i, rfl, hi⟩ := key
  rw [← hi]
  refine call_V rfl rfl ?_
  repeat' first | ((with_reducible show V _ _ _ _ _ _); first | refine V_O rfl ?_ | refine V_cT rfl rfl ?_ | refine V_cF rfl rfl ?_ | refine V_cEq rfl rfl ?_ | refine V_cNe rfl rfl ?_ | refine V_cB rfl rfl (fun _ => ?_) (fun _ => ?_) | refine V_fA rfl rfl ?_ | refine V_fAN rfl rfl ?_ | refine V_D rfl ?_) | ((with_reducible show VO _ _ _ _ _ _ _); first | refine O_cA rfl rfl h1 ?_ | refine O_step rfl ?_ | refine O_nil' ?_ | refine O_gT' rfl ?_ | refine O_gU' rfl ?_ | refine O_gF' rfl rfl ?_ | refine O_gEq rfl ?_ | refine O_gNe rfl ?_ | refine O_gS rfl (fun _ => ?_) (fun _ => ?_)) | ((with_reducible show VD _ _ _ _ _ _ _); first | refine D_step rfl ?_ | refine D_nil' ?_ | refine D_gT' rfl ?_ | refine D_gU' rfl ?_ | refine D_gF' rfl rfl ?_ | refine D_gS rfl (fun _ => ?_) (fun _ => ?_))
  rfl
def parC (n : Nat) : PC := (List.range n).foldl (fun c _ => match c with | .seq _ b => b | c => c) pf_num_Parse.body
theorem par_bad {s : List UInt8} (h : ¬ GoodD s) : parT s = (0, 10) := by unfold parT; rw [if_neg h]
theorem par_good {s : List UInt8} (h : GoodD s) : parT s = ans (sgnD s) := by unfold parT; rw [if_pos h]
theorem piPV_good {s : List UInt8} (h : GoodD s) : (R64 (sgnD s) ∧ piPV s = .tuple [.int .i64 (sgnD s), .nilIface]) ∨ ¬ R64 (sgnD s) ∧ ∃ v, piPV s = .tuple [.int .i64 v, .iface 102 .junk] := by
  have hp := parseInt_dig h
  unfold piPV
  by_cases hr : R64 (sgnD s)
  · rw [hp, if_pos hr]
    exact .inl ⟨hr, rfl⟩
  · rw [hp, if_neg hr]
    exact .inr ⟨hr, _, rfl⟩
theorem told_in {x : Int} (h : R64 x) : T.R (.call n_num_told [.int .i64 x, .bool true] (two (ans x))) := by
  have := run_told x true
  rw [if_pos rfl] at this
  unfold ans
  unfold R64 at h
  rw [if_pos h]
  exact this
theorem told_out {x : Int} (h : ¬ R64 x) (v : Int) : T.R (.call n_num_told [.int .i64 v, .bool false] (two (ans x))) := by
  have := run_told v false
  rw [if_neg (by simp)] at this
  unfold ans
  unfold R64 at h
  rw [if_neg h]
  exact this
set_option maxHeartbeats 2000000 in
theorem par2 {s : List UInt8} (hs : s.length ≤ 281474976710656) : ∀ (fr : List Fr) (x : EX), adv 200 fr x = adv 200 [.code (parC 3)] .normal → V T (Go.AM.Ends pf_num_Parse (· = two (parT s))) fr x (ecOf [(0, .str s), (4, .str (bodyD s))]) emptySt := by
  intro fr x hadv
  have hbl : (bodyD s).length ≤ s.length := by unfold bodyD; split <;> simp
  cases hb : bodyD s with
  | nil =>
    have hg : ¬ GoodD s := fun h => h.1 hb
    rw [par_bad hg]
    refine V_adv (hadv.trans rfl) ?_
    repeat' first | ((with_reducible show V _ _ _ _ _ _); first | refine V_O rfl ?_ | refine V_cT rfl rfl ?_ | refine V_cF rfl rfl ?_ | refine V_cEq rfl rfl ?_ | refine V_cNe rfl rfl ?_ | refine V_cB rfl rfl (fun _ => ?_) (fun _ => ?_) | refine V_fA rfl rfl ?_ | refine V_fAN rfl rfl ?_ | refine V_D rfl ?_) | ((with_reducible show VO _ _ _ _ _ _ _); first | refine O_step rfl ?_ | refine O_nil' ?_ | refine O_gT' rfl ?_ | refine O_gU' rfl ?_ | refine O_gF' rfl rfl ?_ | refine O_gEq rfl ?_ | refine O_gNe rfl ?_ | refine O_gS rfl (fun _ => ?_) (fun _ => ?_)) | ((with_reducible show VD _ _ _ _ _ _ _); first | refine D_step rfl ?_ | refine D_nil' ?_ | refine D_gT' rfl ?_ | refine D_gU' rfl ?_ | refine D_gF' rfl rfl ?_ | refine D_gS rfl (fun _ => ?_) (fun _ => ?_))
    rfl
  | cons c r =>
    have hbv : BV (.sl (byteCells (c :: r)) false) (c :: r) := .sl _ _
    have plv := hbv.pl
    have hcon := run_ContainsD hbv (by rw [← hb]; omega)
    have hch : ((c :: r) : List UInt8)[(0 : Int).toNat]? = some c := rfl
    by_cases hd : ∀ d ∈ c :: r, IsD d
    · rw [decide_eq_true hd] at hcon
      have hpi : ∀ v, piPV s = v → T.R (.call n_strconv_ParseInt [.str s, .int .i64 10, .int .i64 64] v) := fun v hv => .prim _ _ _ (.inr ⟨rfl, s, hs, rfl, hv.symm⟩)
      by_cases hc : c = 48
      · subst hc
        by_cases h0 : s = [48]
        · have hg : GoodD s := by
            refine ⟨by rw [hb]; simp, by rw [hb]; exact hd, fun _ => h0⟩
          rw [par_good hg]
          rcases piPV_good hg with ⟨hr, hv⟩ | ⟨hr, v, hv⟩
          · have hp := hpi _ hv
            have ht := told_in hr
            refine V_adv (hadv.trans rfl) ?_
            repeat' first | ((with_reducible show V _ _ _ _ _ _); first | refine V_O rfl ?_ | refine V_cT rfl rfl ?_ | refine V_cF rfl rfl ?_ | refine V_cEq rfl rfl ?_ | refine V_cNe rfl rfl ?_ | refine V_cB rfl rfl (fun _ => ?_) (fun _ => ?_) | refine V_fA rfl rfl ?_ | refine V_fAN rfl rfl ?_ | refine V_D rfl ?_) | ((with_reducible show VO _ _ _ _ _ _ _); first | refine O_chr 48 rfl rfl (by decide) hch ?_ | refine O_is (ndec_is h0) rfl ?_ | refine O_cA rfl rfl hcon ?_ | refine O_cA rfl rfl hp ?_ | refine O_cA rfl rfl ht ?_ | refine O_step rfl ?_ | refine O_nil' ?_ | refine O_gT' rfl ?_ | refine O_gU' rfl ?_ | refine O_gF' rfl rfl ?_ | refine O_gEq rfl ?_ | refine O_gNe rfl ?_ | refine O_gS rfl (fun _ => ?_) (fun _ => ?_)) | ((with_reducible show VD _ _ _ _ _ _ _); first | refine D_step rfl ?_ | refine D_nil' ?_ | refine D_gT' rfl ?_ | refine D_gU' rfl ?_ | refine D_gF' rfl rfl ?_ | refine D_gS rfl (fun _ => ?_) (fun _ => ?_))
            rfl
          · have hp := hpi _ hv
            have ht := told_out hr v
            refine V_adv (hadv.trans rfl) ?_
            repeat' first | ((with_reducible show V _ _ _ _ _ _); first | refine V_O rfl ?_ | refine V_cT rfl rfl ?_ | refine V_cF rfl rfl ?_ | refine V_cEq rfl rfl ?_ | refine V_cNe rfl rfl ?_ | refine V_cB rfl rfl (fun _ => ?_) (fun _ => ?_) | refine V_fA rfl rfl ?_ | refine V_fAN rfl rfl ?_ | refine V_D rfl ?_) | ((with_reducible show VO _ _ _ _ _ _ _); first | refine O_chr 48 rfl rfl (by decide) hch ?_ | refine O_is (ndec_is h0) rfl ?_ | refine O_cA rfl rfl hcon ?_ | refine O_cA rfl rfl hp ?_ | refine O_cA rfl rfl ht ?_ | refine O_step rfl ?_ | refine O_nil' ?_ | refine O_gT' rfl ?_ | refine O_gU' rfl ?_ | refine O_gF' rfl rfl ?_ | refine O_gEq rfl ?_ | refine O_gNe rfl ?_ | refine O_gS rfl (fun _ => ?_) (fun _ => ?_)) | ((with_reducible show VD _ _ _ _ _ _ _); first | refine D_step rfl ?_ | refine D_nil' ?_ | refine D_gT' rfl ?_ | refine D_gU' rfl ?_ | refine D_gF' rfl rfl ?_ | refine D_gS rfl (fun _ => ?_) (fun _ => ?_))
            rfl
        · have hg : ¬ GoodD s := fun h => h0 (h.2.2 (by rw [hb]; rfl))
          rw [par_bad hg]
          refine V_adv (hadv.trans rfl) ?_
          repeat' first | ((with_reducible show V _ _ _ _ _ _); first | refine V_O rfl ?_ | refine V_cT rfl rfl ?_ | refine V_cF rfl rfl ?_ | refine V_cEq rfl rfl ?_ | refine V_cNe rfl rfl ?_ | refine V_cB rfl rfl (fun _ => ?_) (fun _ => ?_) | refine V_fA rfl rfl ?_ | refine V_fAN rfl rfl ?_ | refine V_D rfl ?_) | ((with_reducible show VO _ _ _ _ _ _ _); first | refine O_chr 48 rfl rfl (by decide) hch ?_ | refine O_is (ndec_not h0) rfl ?_ | refine O_cA rfl rfl hcon ?_ | refine O_step rfl ?_ | refine O_nil' ?_ | refine O_gT' rfl ?_ | refine O_gU' rfl ?_ | refine O_gF' rfl rfl ?_ | refine O_gEq rfl ?_ | refine O_gNe rfl ?_ | refine O_gS rfl (fun _ => ?_) (fun _ => ?_)) | ((with_reducible show VD _ _ _ _ _ _ _); first | refine D_step rfl ?_ | refine D_nil' ?_ | refine D_gT' rfl ?_ | refine D_gU' rfl ?_ | refine D_gF' rfl rfl ?_ | refine D_gS rfl (fun _ => ?_) (fun _ => ?_))
          rfl
      · have hc' : ¬ (c.toNat : Int) = 48 := fun e => hc (UInt8.toNat_inj.1 (by have : (48 : UInt8).toNat = 48 := rfl; omega))
        have hg : GoodD s := by
          refine ⟨by rw [hb]; simp, by rw [hb]; exact hd, fun h => ?_⟩
          rw [hb] at h
          injection h with h
          exact absurd h hc
        rw [par_good hg]
        rcases piPV_good hg with ⟨hr, hv⟩ | ⟨hr, v, hv⟩
        · have hp := hpi _ hv
          have ht := told_in hr
          refine V_adv (hadv.trans rfl) ?_
          repeat' first | ((with_reducible show V _ _ _ _ _ _); first | refine V_O rfl ?_ | refine V_cT rfl rfl ?_ | refine V_cF rfl rfl ?_ | refine V_cEq rfl rfl ?_ | refine V_cNe rfl rfl ?_ | refine V_cB rfl rfl (fun _ => ?_) (fun _ => ?_) | refine V_fA rfl rfl ?_ | refine V_fAN rfl rfl ?_ | refine V_D rfl ?_) | ((with_reducible show VO _ _ _ _ _ _ _); first | refine O_chr c rfl rfl (by decide) hch ?_ | refine O_is (dec_not hc') rfl ?_ | refine O_cA rfl rfl hcon ?_ | refine O_cA rfl rfl hp ?_ | refine O_cA rfl rfl ht ?_ | refine O_step rfl ?_ | refine O_nil' ?_ | refine O_gT' rfl ?_ | refine O_gU' rfl ?_ | refine O_gF' rfl rfl ?_ | refine O_gEq rfl ?_ | refine O_gNe rfl ?_ | refine O_gS rfl (fun _ => ?_) (fun _ => ?_)) | ((with_reducible show VD _ _ _ _ _ _ _); first | refine D_step rfl ?_ | refine D_nil' ?_ | refine D_gT' rfl ?_ | refine D_gU' rfl ?_ | refine D_gF' rfl rfl ?_ | refine D_gS rfl (fun _ => ?_) (fun _ => ?_))
          rfl
        · have hp := hpi _ hv
          have ht := told_out hr v
          refine V_adv (hadv.trans rfl) ?_
          repeat' first | ((with_reducible show V _ _ _ _ _ _); first | refine V_O rfl ?_ | refine V_cT rfl rfl ?_ | refine V_cF rfl rfl ?_ | refine V_cEq rfl rfl ?_ | refine V_cNe rfl rfl ?_ | refine V_cB rfl rfl (fun _ => ?_) (fun _ => ?_) | refine V_fA rfl rfl ?_ | refine V_fAN rfl rfl ?_ | refine V_D rfl ?_) | ((with_reducible show VO _ _ _ _ _ _ _); first | refine O_chr c rfl rfl (by decide) hch ?_ | refine O_is (dec_not hc') rfl ?_ | refine O_cA rfl rfl hcon ?_ | refine O_cA rfl rfl hp ?_ | refine O_cA rfl rfl ht ?_ | refine O_step rfl ?_ | refine O_nil' ?_ | refine O_gT' rfl ?_ | refine O_gU' rfl ?_ | refine O_gF' rfl rfl ?_ | refine O_gEq rfl ?_ | refine O_gNe rfl ?_ | refine O_gS rfl (fun _ => ?_) (fun _ => ?_)) | ((with_reducible show VD _ _ _ _ _ _ _); first | refine D_step rfl ?_ | refine D_nil' ?_ | refine D_gT' rfl ?_ | refine D_gU' rfl ?_ | refine D_gF' rfl rfl ?_ | refine D_gS rfl (fun _ => ?_) (fun _ => ?_))
          rfl
    · rw [decide_eq_false hd] at hcon
      have hg : ¬ GoodD s := fun h => hd (by rw [← hb]; exact h.2.1)
      rw [par_bad hg]
      refine V_adv (hadv.trans rfl) ?_
      repeat' first | ((with_reducible show V _ _ _ _ _ _); first | refine V_O rfl ?_ | refine V_cT rfl rfl ?_ | refine V_cF rfl rfl ?_ | refine V_cEq rfl rfl ?_ | refine V_cNe rfl rfl ?_ | refine V_cB rfl rfl (fun _ => ?_) (fun _ => ?_) | refine V_fA rfl rfl ?_ | refine V_fAN rfl rfl ?_ | refine V_D rfl ?_) | ((with_reducible show VO _ _ _ _ _ _ _); first | refine O_cA rfl rfl hcon ?_ | refine O_step rfl ?_ | refine O_nil' ?_ | refine O_gT' rfl ?_ | refine O_gU' rfl ?_ | refine O_gF' rfl rfl ?_ | refine O_gEq rfl ?_ | refine O_gNe rfl ?_ | refine O_gS rfl (fun _ => ?_) (fun _ => ?_)) | ((with_reducible show VD _ _ _ _ _ _ _); first | refine D_step rfl ?_ | refine D_nil' ?_ | refine D_gT' rfl ?_ | refine D_gU' rfl ?_ | refine D_gF' rfl rfl ?_ | refine D_gS rfl (fun _ => ?_) (fun _ => ?_))
      rfl
theorem run_Parse {s : List UInt8} (hs : s.length ≤ 281474976710656) : T.R (.call n_num_Parse [.str s] (two (parT s))) := by
  have h2 := par2 hs
  cases s with
  | nil =>
    refine call_V rfl rfl ?_
    repeat' first | ((with_reducible show V _ _ _ _ _ _); first | refine V_re rfl (h2 _ _ rfl) ⟨rfl, rfl, trivial⟩ | refine V_O rfl ?_ | refine V_cT rfl rfl ?_ | refine V_cF rfl rfl ?_ | refine V_cEq rfl rfl ?_ | refine V_cNe rfl rfl ?_ | refine V_cB rfl rfl (fun _ => ?_) (fun _ => ?_) | refine V_fA rfl rfl ?_ | refine V_fAN rfl rfl ?_ | refine V_D rfl ?_) | ((with_reducible show VO _ _ _ _ _ _ _); first | refine O_step rfl ?_ | refine O_nil' ?_ | refine O_gT' rfl ?_ | refine O_gU' rfl ?_ | refine O_gF' rfl rfl ?_ | refine O_gEq rfl ?_ | refine O_gNe rfl ?_ | refine O_gS rfl (fun _ => ?_) (fun _ => ?_)) | ((with_reducible show VD _ _ _ _ _ _ _); first | refine D_step rfl ?_ | refine D_nil' ?_ | refine D_gT' rfl ?_ | refine D_gU' rfl ?_ | refine D_gF' rfl rfl ?_ | refine D_gS rfl (fun _ => ?_) (fun _ => ?_))
  | cons c r =>
    have hch : ((c :: r) : List UInt8)[(0 : Int).toNat]? = some c := rfl
    by_cases hc : c = 45
    · subst hc
      have hsl : ∀ look : Nat → Option Tok, sliceStr? (some (.int .i64 1)) none (.str (45 :: r)) = some (.str r) := fun _ => by
        simp [sliceStr?, bound?, int?]
        omega
      refine call_V rfl rfl ?_
      repeat' first | ((with_reducible show V _ _ _ _ _ _); first | refine V_re rfl (h2 _ _ rfl) ⟨rfl, rfl, trivial⟩ | refine V_O rfl ?_ | refine V_cT rfl rfl ?_ | refine V_cF rfl rfl ?_ | refine V_cEq rfl rfl ?_ | refine V_cNe rfl rfl ?_ | refine V_cB rfl rfl (fun _ => ?_) (fun _ => ?_) | refine V_fA rfl rfl ?_ | refine V_fAN rfl rfl ?_ | refine V_D rfl ?_) | ((with_reducible show VO _ _ _ _ _ _ _); first | refine O_chr 45 rfl rfl (by decide) hch ?_ | refine O_step (hsl (fun _ => none)) ?_ | refine O_step rfl ?_ | refine O_nil' ?_ | refine O_gT' rfl ?_ | refine O_gU' rfl ?_ | refine O_gF' rfl rfl ?_ | refine O_gEq rfl ?_ | refine O_gNe rfl ?_ | refine O_gS rfl (fun _ => ?_) (fun _ => ?_)) | ((with_reducible show VD _ _ _ _ _ _ _); first | refine D_step rfl ?_ | refine D_nil' ?_ | refine D_gT' rfl ?_ | refine D_gU' rfl ?_ | refine D_gF' rfl rfl ?_ | refine D_gS rfl (fun _ => ?_) (fun _ => ?_))
    · have hc' : ¬ (c.toNat : Int) = 45 := fun e => hc (UInt8.toNat_inj.1 (by have : (45 : UInt8).toNat = 45 := rfl; omega))
      have hbd : bodyD (c :: r) = c :: r := by unfold bodyD; rw [if_neg (by simp [hc])]
      rw [hbd] at h2
      refine call_V rfl rfl ?_
      repeat' first | ((with_reducible show V _ _ _ _ _ _); first | refine V_re rfl (h2 _ _ rfl) ⟨rfl, rfl, trivial⟩ | refine V_O rfl ?_ | refine V_cT rfl rfl ?_ | refine V_cF rfl rfl ?_ | refine V_cEq rfl rfl ?_ | refine V_cNe rfl rfl ?_ | refine V_cB rfl rfl (fun _ => ?_) (fun _ => ?_) | refine V_fA rfl rfl ?_ | refine V_fAN rfl rfl ?_ | refine V_D rfl ?_) | ((with_reducible show VO _ _ _ _ _ _ _); first | refine O_chr c rfl rfl (by decide) hch ?_ | refine O_is (dec_not hc') rfl ?_ | refine O_step rfl ?_ | refine O_nil' ?_ | refine O_gT' rfl ?_ | refine O_gU' rfl ?_ | refine O_gF' rfl rfl ?_ | refine O_gEq rfl ?_ | refine O_gNe rfl ?_ | refine O_gS rfl (fun _ => ?_) (fun _ => ?_)) | ((with_reducible show VD _ _ _ _ _ _ _); first | refine D_step rfl ?_ | refine D_nil' ?_ | refine D_gT' rfl ?_ | refine D_gU' rfl ?_ | refine D_gF' rfl rfl ?_ | refine D_gS rfl (fun _ => ?_) (fun _ => ?_))
end Go.Proofs.YtbeaalkfakjoiaaDoor
set_option linter.unusedVariables false
set_option linter.unusedSimpArgs false
namespace Go.Proofs.YtbeaalkfakjoiaaDoor
open Go Go.AM Go.RowKit
end Go.Proofs.YtbeaalkfakjoiaaDoor
set_option linter.unusedVariables false
set_option linter.unusedSimpArgs false
namespace Go.Proofs.YtbeaalkfakjoiaaDoor
open Go Go.AM Go.RowKit
open Go.Lib in
theorem dec_len : ∀ (k u : Nat), u < 10 ^ (k + 1) → (decDigits u).length ≤ k + 1
  | 0, u, h => by rw [dec_small (by simpa using h)]; simp
  | k + 1, u, h => by
    by_cases h1 : u < 10
    · rw [dec_small h1]; simp
    · have := dec_len k (u / 10) (by rw [Nat.pow_succ] at h; omega)
      rw [dec_snoc h1]
      simp
      omega
open Go.Lib in
theorem itoa_len {n : Int} (h : R64 n) : (itoa n).length ≤ 21 := by
  unfold R64 at h
  have p20 : (10 : Nat) ^ (19 + 1) = 100000000000000000000 := by decide
  unfold itoa
  split
  · have := dec_len 19 n.natAbs (by rw [p20]; omega)
    simp
    omega
  · have := dec_len 19 n.toNat (by rw [p20]; omega)
    omega
def DL (st : St) (v : PV) (es : List (List PV)) : Prop := v = .sl es true ∨ ∃ t, v = .osl t 0 0 es.length false ∧ st.get t = some (.row 0 1 es true)
theorem DL.src {st : St} {v : PV} {es : List (List PV)} (h : DL st v es) : srcOf st v = some es := by
  rcases h with rfl | ⟨t, rfl, hg⟩
  · rfl
  · simp only [srcOf, elemsOf, hg]
    rw [if_pos ⟨trivial, by omega⟩]
    simp
theorem DL.len {st : St} {v : PV} {es : List (List PV)} (h : DL st v es) : lenOf v = some es.length ∧ isStr v = false := by
  rcases h with rfl | ⟨t, rfl, hg⟩ <;> exact ⟨rfl, rfl⟩
theorem DL.app {st : St} {v : PV} {es : List (List PV)} (h : DL st v es) (hne : es ≠ []) (hl : es.length ≤ 1000) (x : Int) : ∃ v' st', appendTo st 1 8 (.sl [[.int .i64 x]] true) es = some (v', st') ∧ DL st' v' ([.int .i64 x] :: es) := by
  refine ⟨_, _, appendTo_full hne (by simp only [List.length_singleton, roomLen]; omega) rfl, .inr ⟨st.next, ?_, ?_⟩⟩
  · simp [Nat.add_comm]
  · exact St.get_new
end Go.Proofs.YtbeaalkfakjoiaaDoor
set_option linter.unusedVariables false
set_option linter.unusedSimpArgs false
namespace Go.Proofs.YtbeaalkfakjoiaaDoor
open Go Go.AM Go.RowKit
def cutB (c : UInt8) : List UInt8 → Option (List UInt8 × List UInt8)
  | [] => none
  | b :: l => if b = c then some ([], l) else (cutB c l).map fun p => (b :: p.1, p.2)
def idxI (c : UInt8) (s : List UInt8) : Int := match cutB c s with
  | none => -1
  | some p => p.1.length
theorem cutB_some {c : UInt8} : ∀ {s x y : List UInt8}, cutB c s = some (x, y) → s = x ++ c :: y ∧ c ∉ x
  | [], x, y, h => by cases h
  | b :: l, x, y, h => by
    rw [cutB] at h
    split at h
    · rename_i hb
      injection h with h
      injection h with h1 h2
      subst h1 h2 hb
      exact ⟨rfl, by simp⟩
    · rename_i hb
      cases hc : cutB c l with
      | none => rw [hc] at h; cases h
      | some p =>
        obtain ⟨a, d⟩ := p
        rw [hc] at h
        injection h with h
        injection h with h1 h2
        subst h1 h2
        obtain ⟨i1, i2⟩ := cutB_some hc
        exact ⟨by rw [i1]; rfl, by simp [i2, Ne.symm hb]⟩
theorem cutB_none {c : UInt8} : ∀ {s : List UInt8}, cutB c s = none → c ∉ s
  | [], h => by simp
  | b :: l, h => by
    rw [cutB] at h
    split at h
    · cases h
    · rename_i hb
      cases hc : cutB c l with
      | none => simp [cutB_none hc, Ne.symm hb]
      | some p => rw [hc] at h; cases h
theorem idxI_lib (c : UInt8) : ∀ s : List UInt8, Lib.indexByte s c = idxI c s
  | [] => rfl
  | b :: l => by
    have ih := idxI_lib c l
    rw [Lib.indexByte]
    unfold idxI at ih ⊢
    rw [cutB]
    by_cases hb : b = c
    · subst hb; simp
    · rw [if_neg hb, if_neg (by simpa using hb), ih]
      cases hc : cutB c l with
      | none => rfl
      | some p =>
        simp only [Option.map_some, List.length_cons]
        rw [if_neg (by simp)]
        rfl
theorem u8_back (c : UInt8) : ((c.toNat : Int)).toNat.toUInt8 = c := by simp [Nat.toUInt8]
theorem run_IdxByteS (s : List UInt8) (c : UInt8) : T.R (.call n_stringslite_IndexByte [.str s, .int .u8 c.toNat] (.int .i64 (idxI c s))) := by
  have hx : T.ext n_bytealg_IndexByteString [.str s, .int .u8 c.toNat] (.int .i64 (idxI c s)) := X_idx ⟨rfl, s, c.toNat, rfl, by rw [u8_back, idxI_lib]⟩
  generalize idxI c s = r at hx ⊢
  refine call_V rfl rfl ?_
  repeat' first | refine V_O rfl ?_ | refine V_fA rfl rfl ?_ | ((with_reducible show VO _ _ _ _ _ _ _); first | refine O_extP rfl rfl (viewL_pl (by (repeat' (first | exact Pl.int _ _ | exact Pl.bool _ | exact Pl.str _ | exact Pl.nilSl | exact pl_nil | refine pl_cons ?_ ?_ | refine Pl.tuple _ ?_ | refine Pl.agg _ ?_ | refine Pl.func _ _ ?_ | assumption | refine Pl.iptr _ _ ?_ | exact pll_nil | refine pll_cons ?_ ?_ | refine Pl.sl _ _ ?_)); first | done | fail)) rfl hx ?_ | refine O_step rfl ?_ | refine O_nil' ?_)
  rfl
theorem run_SIndex1 (s : List UInt8) (c : UInt8) : T.R (.call n_stringslite_Index [.str s, .str [c]] (.int .i64 (idxI c s))) := by
  have hx := run_IdxByteS s c
  have hch : ([c] : List UInt8)[(0 : Int).toNat]? = some c := rfl
  have h0 : [c] = s → idxI c s = 0 := fun h => by subst h; simp [idxI, cutB]
  generalize idxI c s = r at hx h0 ⊢
  refine call_V rfl rfl ?_
  repeat' first | ((with_reducible show V _ _ _ _ _ _); first | refine V_O rfl ?_ | refine V_cT rfl rfl ?_ | refine V_cB rfl rfl (fun _ => ?_) (fun _ => ?_) | refine V_fA rfl rfl ?_) | ((with_reducible show VO _ _ _ _ _ _ _); first | refine O_chr c rfl rfl (by decide) hch ?_ | refine O_cA rfl rfl hx ?_ | refine O_step rfl ?_ | refine O_nil' ?_ | refine O_gT' rfl ?_)
  all_goals first | rfl | (rename_i h; rw [h0 (of_decide_eq_true h)])
theorem run_Index1S (s : List UInt8) (c : UInt8) : T.R (.call n_strings_Index [.str s, .str [c]] (.int .i64 (idxI c s))) := by
  have hx := run_SIndex1 s c
  generalize idxI c s = r at hx ⊢
  refine call_V rfl rfl ?_
  repeat' first | refine V_O rfl ?_ | refine V_fA rfl rfl ?_ | ((with_reducible show VO _ _ _ _ _ _ _); first | refine O_cA rfl rfl hx ?_ | refine O_step rfl ?_ | refine O_nil' ?_)
  rfl
theorem sliceTo {s : List UInt8} {k : IntKind} {n : Nat} (h : n ≤ s.length) : sliceStr? none (some (.int k (n : Int))) (.str s) = some (.str (s.take n)) := by
  have h1 : ((0 : Int) ≤ n ∧ (n : Int) ≤ s.length) := by omega
  simp [sliceStr?, bound?, h]
theorem sliceFrom {s : List UInt8} {k : IntKind} {n : Nat} (h : n ≤ s.length) : sliceStr? (some (.int k (n : Int))) none (.str s) = some (.str (s.drop n)) := by
  simp [sliceStr?, bound?, h]
  exact List.take_of_length_le (by simp)
theorem run_Count1 (s : List UInt8) (c : UInt8) : T.R (.call n_strings_Count [.str s, .str [c]] (.int .i64 (s.count c))) := by
  have hx : T.ext n_bytealg_CountString [.str s, .int .u8 c.toNat] (.int .i64 (s.count c : Nat)) := X_cnt ⟨rfl, s, c.toNat, rfl, by rw [u8_back]⟩
  have hch : ([c] : List UInt8)[(0 : Int).toNat]? = some c := rfl
  generalize (s.count c : Nat) = r at hx ⊢
  refine call_V rfl rfl ?_
  repeat' first | ((with_reducible show V _ _ _ _ _ _); first | refine V_O rfl ?_ | refine V_cT rfl rfl ?_ | refine V_cF rfl rfl ?_ | refine V_fA rfl rfl ?_) | ((with_reducible show VO _ _ _ _ _ _ _); first | refine O_chr c rfl rfl (by decide) hch ?_ | refine O_extP rfl rfl (viewL_pl (by (repeat' (first | exact Pl.int _ _ | exact Pl.bool _ | exact Pl.str _ | exact Pl.nilSl | exact pl_nil | refine pl_cons ?_ ?_ | refine Pl.tuple _ ?_ | refine Pl.agg _ ?_ | refine Pl.func _ _ ?_ | assumption | refine Pl.iptr _ _ ?_ | exact pll_nil | refine pll_cons ?_ ?_ | refine Pl.sl _ _ ?_)); first | done | fail)) rfl hx ?_ | refine O_step rfl ?_ | refine O_nil' ?_)
  rfl
def splitB (c : UInt8) : List UInt8 → List (List UInt8)
  | [] => [[]]
  | b :: l => if b = c then [] :: splitB c l else match splitB c l with
    | [] => [[b]]
    | p :: ps => (b :: p) :: ps
theorem splitB_none {c : UInt8} : ∀ {s : List UInt8}, c ∉ s → splitB c s = [s]
  | [], _ => rfl
  | b :: l, h => by
    simp only [List.mem_cons, not_or] at h
    rw [splitB, if_neg (Ne.symm h.1), splitB_none h.2]
theorem splitB_cut {c : UInt8} : ∀ {x y : List UInt8}, c ∉ x → splitB c (x ++ c :: y) = x :: splitB c y
  | [], y, _ => by rw [List.nil_append, splitB, if_pos rfl]
  | b :: x, y, h => by
    simp only [List.mem_cons, not_or] at h
    rw [List.cons_append, splitB, if_neg (Ne.symm h.1), splitB_cut h.2]
theorem splitB_len (c : UInt8) : ∀ s : List UInt8, (splitB c s).length = s.count c + 1
  | [] => rfl
  | b :: l => by
    have ih := splitB_len c l
    rw [splitB, List.count_cons]
    by_cases hb : b = c
    · rw [if_pos hb]; simp [ih, hb]
    · rw [if_neg hb]
      cases hl : splitB c l with
      | nil => rw [hl] at ih; simp at ih
      | cons p ps => rw [hl] at ih; simp at ih; simp [hb]; omega
def sc (s : List UInt8) : List PV := [.str s]
def rowS (es : List (List UInt8)) : St := ⟨0, 1, [(0, .row 0 1 (es.map sc) true)]⟩
theorem pl_sc (l : List (List UInt8)) : ∀ cs ∈ l.map sc, ∀ c ∈ cs, Pl c := fun cs h => by
  obtain ⟨n, _, rfl⟩ := List.mem_map.1 h
  exact pl_cons (.str _) pl_nil
theorem set_done (done : List (List UInt8)) (x : List UInt8) (k : Nat) : ((done ++ List.replicate (k + 1) []).map sc).set done.length [.str x] = ((done ++ [x] ++ List.replicate k []).map sc) := by
  rw [List.map_append, List.set_append_right _ _ (by simp), List.length_map, Nat.sub_self, List.replicate_succ]
  simp [sc]
theorem get_done (done : List (List UInt8)) (k : Nat) : ((done ++ List.replicate (k + 1) []).map sc)[done.length]? = some [.str []] := by
  rw [List.map_append, List.getElem?_append_right (by simp), List.length_map, Nat.sub_self, List.replicate_succ]
  rfl
theorem split_loop (c : UInt8) (N : Nat) (hN : N ≤ 9223372036854775800) : ∀ (k : Nat) (s : List UInt8) (done : List (List UInt8)), s.count c = k → s.length ≤ 9223372036854775800 → done.length + k = N →
    V T (PE fun x e st' => x = .exit 0 ∧ ∃ (d : List (List UInt8)) (r : List UInt8), d ++ [r] = done ++ splitB c s ∧ d.length = N ∧ e = ecOf [(0, .str r), (9, .osl 0 0 0 (N + 1) false), (10, .int .i64 N)] ∧ st' = rowS (d ++ [[]])) [.code (.loop lp_strings_genSplit_0)] .normal (ecOf [(0, .str s), (1, .str [c]), (2, .int .i64 0), (3, .int .i64 N), (9, .osl 0 0 0 (N + 1) false), (10, .int .i64 done.length)]) (rowS (done ++ List.replicate (k + 1) [])) := by
  intro k
  induction k with
  | zero =>
    intro s done hk hs hd
    have hdn : done.length = N := by omega
    have hlt : decide ((done.length : Int) < (N : Int)) = false := decide_eq_false (by omega)
    have hns : c ∉ s := by rw [← List.count_eq_zero]; exact hk
    refine V_unroll ?_
    repeat' first | ((with_reducible show V _ _ _ _ _ _); first | refine V_cH hlt rfl rfl ?_ | refine V_out [(0, .str s), (9, .osl 0 0 0 (N + 1) false), (10, .int .i64 N)] rfl ⟨rfl, rfl, some_int (by omega), trivial⟩ ⟨rfl, done, s, by rw [splitB_none hns], hdn, rfl, rfl⟩ | refine V_O rfl ?_) | refine O_step rfl ?_ | refine O_nil' ?_
  | succ k ih =>
    intro s done hk hs hd
    have hlt : decide ((done.length : Int) < (N : Int)) = true := decide_eq_true (by omega)
    cases hc : cutB c s with
    | none =>
      have := List.count_eq_zero.2 (cutB_none hc)
      omega
    | some p =>
      obtain ⟨x, y⟩ := p
      obtain ⟨hsx, hnx⟩ := cutB_some hc
      have hx := run_Index1S s c
      unfold idxI at hx
      rw [hc] at hx
      have hx' : T.R (.call n_strings_Index [.str s, .str [c]] (.int .i64 (x.length : Int))) := hx
      have hl0 : ¬ (x.length : Int) < 0 := by omega
      have hl1 : x.length ≤ s.length := by rw [hsx]; simp
      have h1 := sliceTo (k := .i64) hl1
      have h2 := sliceFrom (s := s) (k := .i64) (n := x.length + 1) (by rw [hsx]; simp)
      have t1 : s.take x.length = x := by rw [hsx]; simp
      have t2 : s.drop (x.length + 1) = y := by rw [hsx]; simp
      rw [t1] at h1
      rw [t2] at h2
      have hw0 : PV.int .i64 (IntKind.i64.wrap ((x.length : Int) + 0)) = PV.int .i64 (x.length : Int) := int_is (by rw [wrap_i64]; omega)
      have hw1 : PV.int .i64 (IntKind.i64.wrap ((x.length : Int) + 1)) = PV.int .i64 ((x.length + 1 : Nat) : Int) := int_is (by rw [wrap_i64]; omega)
      have hw : IntKind.i64.wrap ((done.length : Int) + 1) = ((done ++ [x]).length : Int) := by rw [wrap_i64]; simp; omega
      have hcy : y.count c = k := by rw [hsx] at hk; simp [List.count_append, List.count_eq_zero.2 hnx] at hk; omega
      have hi := ih y (done ++ [x]) hcy (by rw [hsx] at hs; simp at hs; omega) (by simp; omega)
      have hres : done ++ [x] ++ splitB c y = done ++ splitB c s := by rw [hsx, splitB_cut hnx]; simp
      rw [hres] at hi
      have hgd : ((done ++ List.replicate (k + 1 + 1) []).map sc)[0 + ((done.length : Int)).toNat]? = some [.str []] := by
        have := get_done done (k + 1)
        simpa using this
      have hst : (rowS (done ++ List.replicate (k + 1 + 1) [])).put 0 (.row 0 1 (((done ++ List.replicate (k + 1 + 1) []).map sc).set (0 + ((done.length : Int)).toNat) [.str x]) true) = rowS (done ++ [x] ++ List.replicate (k + 1) []) := by
        have := set_done done x (k + 1)
        simp only [Nat.zero_add, Int.toNat_natCast]
        rw [this]
        rfl
      refine V_unroll ?_
      repeat' first | ((with_reducible show V _ _ _ _ _ _); first | refine V_cHT hlt rfl rfl ?_ | refine V_cH (decide_eq_false hl0) rfl rfl ?_ | refine V_st hst (V_re rfl hi ⟨rfl, rfl, rfl, rfl, rfl, some_int hw, trivial⟩) | refine V_O rfl ?_) | ((with_reducible show VO _ _ _ _ _ _ _); first | refine O_cA rfl rfl hx' ?_ | refine O_is hw0 rfl ?_ | refine O_is hw1 rfl ?_ | refine O_step h1 ?_ | refine O_step h2 ?_ | refine O_idxOwn rfl rfl rfl (by omega) ?_ | refine O_storeR rfl rfl rfl rfl rfl hgd ?_ | refine O_step rfl ?_ | refine O_nil' ?_)
theorem run_genSplit (s : List UInt8) (c : UInt8) (hs : s.length ≤ 1000000000) : T.R (.call n_strings_genSplit [.str s, .str [c], .int .i64 0, .int .i64 (-1)] (.sl ((splitB c s).map sc) false)) := by
  have hcnt := run_Count1 s c
  have hcl : s.count c ≤ s.length := List.count_le_length
  have hl := split_loop c (s.count c) (by omega) (s.count c) s [] rfl (by omega) (by simp)
  rw [List.nil_append, List.nil_append] at hl
  generalize hn : s.count c = n at *
  have hw1 : PV.int .i64 (IntKind.i64.wrap ((n : Int) + 1)) = PV.int .i64 ((n + 1 : Nat) : Int) := int_is (by rw [wrap_i64]; omega)
  have hw2 : PV.int .i64 (IntKind.i64.wrap ((s.length : Int) + 1)) = PV.int .i64 ((s.length + 1 : Nat) : Int) := int_is (by rw [wrap_i64]; omega)
  have hmin : PV.int .i64 (if false = true then (if ((s.length + 1 : Nat) : Int) > ((n + 1 : Nat) : Int) then ((s.length + 1 : Nat) : Int) else ((n + 1 : Nat) : Int)) else if ((s.length + 1 : Nat) : Int) < ((n + 1 : Nat) : Int) then ((s.length + 1 : Nat) : Int) else ((n + 1 : Nat) : Int)) = PV.int .i64 ((n + 1 : Nat) : Int) := int_is (by rw [if_neg (by simp), if_neg (by omega)])
  have hw3 : PV.int .i64 (IntKind.i64.wrap (((n + 1 : Nat) : Int) - 1)) = PV.int .i64 (n : Int) := int_is (by rw [wrap_i64]; omega)
  have hm0 : (emptySt.new (.row 0 1 (List.replicate (n + 1) [.str []]) true)) = rowS (List.replicate (n + 1) []) := by
    unfold rowS
    rw [List.map_replicate]
    rfl
  refine call_V rfl rfl ?_
  repeat' first | ((with_reducible show V _ _ _ _ _ _); first | refine V_st hm0 (V_cutTo rfl hl ⟨rfl, rfl, rfl, rfl, rfl, rfl, trivial⟩ ?_) | refine V_O rfl ?_ | refine V_cT rfl rfl ?_ | refine V_cF rfl rfl ?_) | ((with_reducible show VO _ _ _ _ _ _ _); first | refine O_cA rfl rfl hcnt ?_ | refine O_is hw1 rfl ?_ | refine O_is hw2 rfl ?_ | refine O_is hmin rfl ?_ | refine O_is hw3 rfl ?_ | refine O_makeN (N := n + 1) rfl rfl rfl rfl (by simp only [roomLen]; omega) ?_ | refine O_step rfl ?_ | refine O_nil' ?_)
  rintro x e' st' ⟨rfl, d, r, hd, hdl, rfl, rfl⟩
  have hgd : ((d ++ [[]]).map sc)[0 + ((n : Int)).toNat]? = some [.str []] := by
    have := get_done d 0
    rw [hdl] at this
    simpa using this
  have hset : ((d ++ [[]]).map sc).set (0 + ((n : Int)).toNat) [.str r] = (d ++ [r]).map sc := by
    have := set_done d r 0
    rw [hdl] at this
    simpa using this
  have hst : (rowS (d ++ [[]])).put 0 (.row 0 1 (((d ++ [[]]).map sc).set (0 + ((n : Int)).toNat) [.str r]) true) = rowS (splitB c s) := by
    rw [hset, hd]
    rfl
  have hlen : (splitB c s).length = n + 1 := by rw [splitB_len, hn]
  have hsl : sliceSl? (rowS (splitB c s)).get 1 none (some (.int .i64 ((n + 1 : Nat) : Int))) none (.osl 0 0 0 (n + 1) false) = some (.osl 0 0 0 (n + 1) false) := by
    have h1 : ((0 : Int) ≤ (n : Int) + 1) := by omega
    simp [sliceSl?, bound?, lenOf, rowS, St.get, getA, h1]
  repeat' first | ((with_reducible show V _ _ _ _ _ _); first | refine V_st hst ?_ | refine V_fin rfl rfl (view_osl0 (es := (splitB c s).map sc) rfl (.inl rfl) (by rw [List.length_map, hlen]) (pl_sc _)) rfl | refine V_O rfl ?_) | ((with_reducible show VO _ _ _ _ _ _ _); first | refine O_is hw1 rfl ?_ | refine O_idxOwn rfl rfl rfl (by omega) ?_ | refine O_storeR rfl rfl rfl rfl rfl hgd ?_ | refine O_step hsl ?_ | refine O_step rfl ?_ | refine O_nil' ?_)
theorem run_Split (s : List UInt8) (c : UInt8) (hs : s.length ≤ 1000000000) : T.R (.call n_strings_Split [.str s, .str [c]] (.sl ((splitB c s).map sc) false)) := by
  have hx := run_genSplit s c hs
  have plv : Pl (.sl ((splitB c s).map sc) false) := .sl _ _ (pl_sc _)
  refine call_V rfl rfl ?_
  repeat' first | refine V_O rfl ?_ | refine V_fA rfl rfl ?_ | ((with_reducible show VO _ _ _ _ _ _ _); first | refine O_cA rfl rfl hx ?_ | refine O_step rfl ?_ | refine O_nil' ?_)
  rfl
end Go.Proofs.YtbeaalkfakjoiaaDoor
set_option linter.unusedVariables false
set_option linter.unusedSimpArgs false
namespace Go.Proofs.YtbeaalkfakjoiaaDoor
open Go Go.AM Go.RowKit
def cutT (c : UInt8) (s : List UInt8) : PV := match cutB c s with
  | none => .tuple [.str s, .str [], .bool false]
  | some p => .tuple [.str p.1, .str p.2, .bool true]
theorem run_SCut (s : List UInt8) (c : UInt8) (hs : s.length ≤ 9223372036854775800) : T.R (.call n_stringslite_Cut [.str s, .str [c]] (cutT c s)) := by
  have hx := run_SIndex1 s c
  unfold cutT
  unfold idxI at hx
  cases hc : cutB c s with
  | none =>
    rw [hc] at hx
    have hx' : T.R (.call n_stringslite_Index [.str s, .str [c]] (.int .i64 (-1))) := hx
    refine call_V rfl rfl ?_
    repeat' first | ((with_reducible show V _ _ _ _ _ _); first | refine V_O rfl ?_ | refine V_cT rfl rfl ?_ | refine V_cF rfl rfl ?_ | refine V_cEq rfl rfl ?_ | refine V_cNe rfl rfl ?_ | refine V_cB rfl rfl (fun _ => ?_) (fun _ => ?_) | refine V_fA rfl rfl ?_ | refine V_fAN rfl rfl ?_ | refine V_D rfl ?_) | ((with_reducible show VO _ _ _ _ _ _ _); first | refine O_cA rfl rfl hx' ?_ | refine O_step rfl ?_ | refine O_nil' ?_ | refine O_gT' rfl ?_ | refine O_gU' rfl ?_ | refine O_gF' rfl rfl ?_ | refine O_gEq rfl ?_ | refine O_gNe rfl ?_ | refine O_gS rfl (fun _ => ?_) (fun _ => ?_)) | ((with_reducible show VD _ _ _ _ _ _ _); first | refine D_step rfl ?_ | refine D_nil' ?_ | refine D_gT' rfl ?_ | refine D_gU' rfl ?_ | refine D_gF' rfl rfl ?_ | refine D_gS rfl (fun _ => ?_) (fun _ => ?_))
    rfl
  | some p =>
    obtain ⟨x, y⟩ := p
    rw [hc] at hx
    have hx' : T.R (.call n_stringslite_Index [.str s, .str [c]] (.int .i64 (x.length : Int))) := hx
    obtain ⟨hsx, _⟩ := cutB_some hc
    have hge : PV.bool (decide ((0 : Int) ≤ (x.length : Int))) = PV.bool true := dec_is (by omega)
    have hl1 : x.length ≤ s.length := by rw [hsx]; simp
    have h1 := sliceTo (k := .i64) hl1
    have h2 := sliceFrom (s := s) (k := .i64) (n := x.length + 1) (by rw [hsx]; simp)
    have t1 : s.take x.length = x := by rw [hsx]; simp
    have t2 : s.drop (x.length + 1) = y := by rw [hsx]; simp
    rw [t1] at h1
    rw [t2] at h2
    have hw : PV.int .i64 (IntKind.i64.wrap ((x.length : Int) + 1)) = PV.int .i64 ((x.length + 1 : Nat) : Int) := int_is (by rw [wrap_i64]; omega)
    refine call_V rfl rfl ?_
    repeat' first | ((with_reducible show V _ _ _ _ _ _); first | refine V_O rfl ?_ | refine V_cT rfl rfl ?_ | refine V_cF rfl rfl ?_ | refine V_cEq rfl rfl ?_ | refine V_cNe rfl rfl ?_ | refine V_cB rfl rfl (fun _ => ?_) (fun _ => ?_) | refine V_fA rfl rfl ?_ | refine V_fAN rfl rfl ?_ | refine V_D rfl ?_) | ((with_reducible show VO _ _ _ _ _ _ _); first | refine O_cA rfl rfl hx' ?_ | refine O_is hge rfl ?_ | refine O_step rfl ?_ | refine O_nil' ?_ | refine O_gT' rfl ?_ | refine O_gU' rfl ?_ | refine O_gF' rfl rfl ?_ | refine O_gEq rfl ?_ | refine O_gNe rfl ?_ | refine O_gS rfl (fun _ => ?_) (fun _ => ?_)) | ((with_reducible show VD _ _ _ _ _ _ _); first | refine D_step h1 ?_ | refine D_step h2 ?_ | refine D_is hw rfl ?_ | refine D_step rfl ?_ | refine D_nil' ?_ | refine D_gT' rfl ?_ | refine D_gU' rfl ?_ | refine D_gF' rfl rfl ?_ | refine D_gS rfl (fun _ => ?_) (fun _ => ?_))
    rfl
theorem cutT_pl (c : UInt8) (s : List UInt8) : ∃ a b t, cutT c s = .tuple [.str a, .str b, .bool t] := by
  unfold cutT
  cases cutB c s with
  | none => exact ⟨_, _, _, rfl⟩
  | some p => exact ⟨_, _, _, rfl⟩
theorem run_Cut (s : List UInt8) (c : UInt8) (hs : s.length ≤ 9223372036854775800) : T.R (.call n_strings_Cut [.str s, .str [c]] (cutT c s)) := by
  have hx := run_SCut s c hs
  obtain ⟨a, b, t, ht⟩ := cutT_pl c s
  rw [ht] at hx ⊢
  refine call_V rfl rfl ?_
  repeat' first | ((with_reducible show V _ _ _ _ _ _); first | refine V_O rfl ?_ | refine V_cT rfl rfl ?_ | refine V_cF rfl rfl ?_ | refine V_cEq rfl rfl ?_ | refine V_cNe rfl rfl ?_ | refine V_cB rfl rfl (fun _ => ?_) (fun _ => ?_) | refine V_fA rfl rfl ?_ | refine V_fAN rfl rfl ?_ | refine V_D rfl ?_) | ((with_reducible show VO _ _ _ _ _ _ _); first | refine O_cA rfl rfl hx ?_ | refine O_step rfl ?_ | refine O_nil' ?_ | refine O_gT' rfl ?_ | refine O_gU' rfl ?_ | refine O_gF' rfl rfl ?_ | refine O_gEq rfl ?_ | refine O_gNe rfl ?_ | refine O_gS rfl (fun _ => ?_) (fun _ => ?_)) | ((with_reducible show VD _ _ _ _ _ _ _); first | refine D_step rfl ?_ | refine D_nil' ?_ | refine D_gT' rfl ?_ | refine D_gU' rfl ?_ | refine D_gF' rfl rfl ?_ | refine D_gS rfl (fun _ => ?_) (fun _ => ?_))
  rfl
end Go.Proofs.YtbeaalkfakjoiaaDoor

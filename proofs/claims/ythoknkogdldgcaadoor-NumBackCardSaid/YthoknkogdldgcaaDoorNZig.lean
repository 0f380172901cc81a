/- Numbers whose sign is their lowest bit; a number is taken as it was put. -/
import Derived.Test.YthoknkogdldgcaaDoorNTake
import Derived.Test.YthoknkogdldgcaaDoorPutG
set_option linter.unusedVariables false
set_option linter.unusedSimpArgs false
namespace Go.Proofs.YthoknkogdldgcaaDoor
open Go Go.AM Go.RowKit
def I64 (x : Int) : Prop := -9223372036854775808 ≤ x ∧ x ≤ 9223372036854775807
def zigN (n : Int) : Nat := if n < 0 then (-2 * n - 1).toNat else (2 * n).toNat
theorem zig_val {n : Int} (h : I64 n) : IntKind.u64.wrap ((BitVec.ofInt 64 (IntKind.u64.wrap (IntKind.u64.wrap n * 2 ^ (min (1 : Int).toNat IntKind.u64.bits))) ^^^ BitVec.ofInt 64 (IntKind.u64.wrap (n.fdiv (2 ^ (min (63 : Int).toNat IntKind.i64.bits))))).toNat : Int) = (zigN n : Int) := by
  obtain ⟨h1, h2⟩ := h
  have e1 : (2 : Int) ^ (min (1 : Int).toNat IntKind.u64.bits) = 2 := rfl
  have e2 : (2 : Int) ^ (min (63 : Int).toNat IntKind.i64.bits) = 9223372036854775808 := rfl
  rw [e1, e2]
  by_cases hn : n < 0
  · have a : IntKind.u64.wrap (IntKind.u64.wrap n * 2) = ((2 * n + 18446744073709551616).toNat : Int) := by rw [wrap_u64, wrap_u64]; omega
    have b : IntKind.u64.wrap (n.fdiv 9223372036854775808) = 18446744073709551615 := by rw [wrap_u64, Int.fdiv_eq_ediv_of_nonneg _ (by omega)]; omega
    rw [a, b]
    have c : BitVec.ofInt 64 18446744073709551615 = BitVec.allOnes 64 := rfl
    rw [c, BitVec.xor_allOnes, BitVec.toNat_not, BitVec.ofInt_natCast, BitVec.toNat_ofNat, wrap_u64]
    unfold zigN
    rw [if_pos hn]
    omega
  · have a : IntKind.u64.wrap (IntKind.u64.wrap n * 2) = ((2 * n).toNat : Int) := by rw [wrap_u64, wrap_u64]; omega
    have b : IntKind.u64.wrap (n.fdiv 9223372036854775808) = 0 := by rw [wrap_u64, Int.fdiv_eq_ediv_of_nonneg _ (by omega)]; omega
    rw [a, b]
    have c : BitVec.ofInt 64 0 = 0#64 := rfl
    rw [c, BitVec.xor_zero, BitVec.ofInt_natCast, BitVec.toNat_ofNat, wrap_u64]
    unfold zigN
    rw [if_neg hn]
    omega
theorem run_Zig {n : Int} (h : I64 n) : T.R (.call n_num_Zig [.int .i64 n] (.int .u64 (zigN n))) := by
  have hz := zig_val h
  refine call_V rfl rfl ?_
  repeat' first | refine V_O rfl ?_ | refine O_step rfl ?_ | refine O_nil' ?_ | refine V_cT rfl rfl ?_ | refine V_cF rfl rfl ?_ | refine V_cEq rfl rfl ?_ | refine V_cNe rfl rfl ?_ | refine V_cB rfl rfl (fun _ => ?_) (fun _ => ?_) | refine O_gT' rfl ?_ | refine O_gU' rfl ?_ | refine O_gF' rfl rfl ?_ | refine O_gEq rfl ?_ | refine O_gNe rfl ?_ | refine O_gS rfl (fun _ => ?_) (fun _ => ?_) | refine V_fA rfl rfl ?_ | refine V_fAN rfl rfl ?_ | refine V_D rfl ?_ | refine D_step rfl ?_ | refine D_nil' ?_ | refine D_gT' rfl ?_ | refine D_gU' rfl ?_ | refine D_gF' rfl rfl ?_ | refine D_gS rfl (fun _ => ?_) (fun _ => ?_)
  rw [← hz]
  rfl
theorem putL_ne : ∀ n u, putL n u ≠ []
  | 0, u => by simp [putL]
  | n + 1, u => by unfold putL; split <;> simp
def zagN (u : Nat) : Int := if u % 2 = 0 then ((u / 2 : Nat) : Int) else -((u / 2 : Nat) : Int) - 1
theorem zag_val {u : Nat} (hu : u < 18446744073709551616) : IntKind.i64.wrap ((BitVec.ofInt 64 (IntKind.i64.wrap ((u : Int).fdiv (2 ^ (min (1 : Int).toNat IntKind.u64.bits)))) ^^^ BitVec.ofInt 64 (IntKind.i64.wrap (0 - (IntKind.i64.wrap (IntKind.u64.wrap ((BitVec.ofInt 64 (u : Int) &&& BitVec.ofInt 64 1).toNat : Int)))))).toNat : Int) = zagN u := by
  have e1 : (2 : Int) ^ (min (1 : Int).toNat IntKind.u64.bits) = 2 := rfl
  have h1 : IntKind.i64.wrap ((u : Int).fdiv 2) = ((u / 2 : Nat) : Int) := by rw [Int.fdiv_eq_ediv_of_nonneg _ (by omega), wrap_i64]; omega
  have h2 : (BitVec.ofInt 64 (u : Int) &&& BitVec.ofInt 64 1).toNat = u % 2 := by
    have h4 : BitVec.ofInt 64 1 = 1#64 := rfl
    rw [BitVec.ofInt_natCast, h4, BitVec.toNat_and, BitVec.toNat_ofNat, Nat.mod_eq_of_lt (by omega)]
    show u &&& (1 : Nat) = _
    exact Nat.and_one_is_mod u
  have h3 : IntKind.i64.wrap (0 - (IntKind.i64.wrap (IntKind.u64.wrap ((u % 2 : Nat) : Int)))) = -((u % 2 : Nat) : Int) := by
    have a : IntKind.u64.wrap ((u % 2 : Nat) : Int) = ((u % 2 : Nat) : Int) := by rw [wrap_u64]; omega
    have b : IntKind.i64.wrap ((u % 2 : Nat) : Int) = ((u % 2 : Nat) : Int) := by rw [wrap_i64]; omega
    rw [a, b, wrap_i64]
    omega
  rw [e1, h1, h2, h3]
  unfold zagN
  rcases Nat.mod_two_eq_zero_or_one u with h | h
  · rw [h, if_pos rfl]
    have c : BitVec.ofInt 64 (-((0 : Nat) : Int)) = 0#64 := rfl
    rw [c, BitVec.xor_zero, BitVec.ofInt_natCast, BitVec.toNat_ofNat, wrap_i64]
    omega
  · rw [h, if_neg (by omega)]
    have c : BitVec.ofInt 64 (-((1 : Nat) : Int)) = BitVec.allOnes 64 := rfl
    rw [c, BitVec.xor_allOnes, BitVec.toNat_not, BitVec.ofInt_natCast, BitVec.toNat_ofNat, wrap_i64]
    omega
theorem run_Zag {u : Nat} (hu : u < 18446744073709551616) : T.R (.call n_num_Zag [.int .u64 u] (.int .i64 (zagN u))) := by
  have hz := zag_val hu
  refine call_V rfl rfl ?_
  repeat' first | refine V_O rfl ?_ | refine O_step rfl ?_ | refine O_nil' ?_ | refine V_cT rfl rfl ?_ | refine V_cF rfl rfl ?_ | refine V_cEq rfl rfl ?_ | refine V_cNe rfl rfl ?_ | refine V_cB rfl rfl (fun _ => ?_) (fun _ => ?_) | refine O_gT' rfl ?_ | refine O_gU' rfl ?_ | refine O_gF' rfl rfl ?_ | refine O_gEq rfl ?_ | refine O_gNe rfl ?_ | refine O_gS rfl (fun _ => ?_) (fun _ => ?_) | refine V_fA rfl rfl ?_ | refine V_fAN rfl rfl ?_ | refine V_D rfl ?_ | refine D_step rfl ?_ | refine D_nil' ?_ | refine D_gT' rfl ?_ | refine D_gU' rfl ?_ | refine D_gF' rfl rfl ?_ | refine D_gS rfl (fun _ => ?_) (fun _ => ?_)
  rw [← hz]
  rfl
theorem u8_nat {u : Nat} (h : u < 256) : (UInt8.ofNat u).toNat = u := by simp; omega
theorem dec_put : ∀ (n i u : Nat) (b : List UInt8), n + i = 9 → (0 < i → u ≠ 0) → u < 2 * 128 ^ n → decN (n + 1) i (putL n u ++ b) = .ok u (putL n u).length
  | 0, i, u, b, hi, h0, hu => by
    have hi9 : i = 9 := by omega
    subst hi9
    simp only [Nat.pow_zero, Nat.mul_one] at hu
    have hc := u8_nat (u := u) (by omega)
    have h0' := h0 (by omega)
    simp only [putL, List.cons_append, List.nil_append, decN, hc]
    rw [if_neg (by omega), if_neg (by omega)]
    rfl
  | n + 1, i, u, b, hi, h0, hu => by
    simp only [putL]
    by_cases h : u < 128
    · have hc := u8_nat (u := u) (by omega)
      rw [if_pos h]
      simp only [List.cons_append, List.nil_append, decN, hc]
      rw [if_neg (by omega), if_neg (by omega)]
      rfl
    · have hc := u8_nat (u := u % 128 + 128) (by omega)
      rw [if_neg h]
      simp only [List.cons_append, decN, hc]
      rw [if_pos (by omega), dec_put n (i + 1) (u / 128) b (by omega) (fun _ => by omega) (by rw [Nat.pow_succ] at hu; omega)]
      simp only [NT.up, List.length_cons, NT.ok.injEq, and_true]
      omega
theorem dec_put9 {u : Nat} (hu : u < 18446744073709551616) (b : List UInt8) : decN 10 0 (putL 9 u ++ b) = .ok u (putL 9 u).length :=
  dec_put 9 0 u b rfl (fun h => by omega) (by
    have h9 : (128 : Nat) ^ 9 = 9223372036854775808 := by decide
    rw [h9]; omega)
theorem zag_zig {n : Int} (h : I64 n) : zagN (zigN n) = n := by
  unfold I64 at h
  unfold zagN zigN
  split <;> split <;> omega
theorem zig_zag {u : Nat} (h : u < 18446744073709551616) : zigN (zagN u) = u := by
  unfold zagN zigN
  split <;> split <;> omega
theorem zig_u64 {n : Int} (h : I64 n) : zigN n < 18446744073709551616 := by
  unfold I64 at h
  unfold zigN
  split <;> omega
theorem zag_i64 {u : Nat} (hu : u < 18446744073709551616) : I64 (zagN u) := by unfold zagN I64; split <;> omega
theorem AccT_appendAny {st : St} {v : PV} {b : List UInt8} (h : AccT 1 st v (byteCells b)) (c : List UInt8) (hr : b.length + c.length ≤ 140737488355328) : ∃ v' st', appendTo st 1 1 v (byteCells c) = some (v', st') ∧ AccT 1 st' v' (byteCells (b ++ c)) ∧ Grow st v st' v' := by
  by_cases hc : c = []
  · subst hc
    refine ⟨v, st, appendTo_none ?_, by rw [List.append_nil]; exact h, .refl _ _⟩
    rcases h with ⟨rfl, _⟩ | ⟨t, g, rfl, _, _⟩
    · exact .inl rfl
    · exact .inr (.inr ⟨_, _, _, _, _, rfl⟩)
  · obtain ⟨v', st', k1, k2, k3⟩ := h.grow (bytes := 1) (src := byteCells c) (by simpa [byteCells] using hc) (by simp only [byteCells_length, roomLen]; omega)
    exact ⟨v', st', k1, by rw [byteCells_append]; exact k2, k3⟩
end Go.Proofs.YthoknkogdldgcaaDoor

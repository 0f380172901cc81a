/- A number's bytes in order: codec.eight, rambleref03.eight. -/
import Derived.Test.YtfdebgebnkbagaaDoorValA
import Derived.Test.YtfdebgebnkbagaaDoorAmZ
set_option linter.unusedVariables false
set_option linter.unusedSimpArgs false
namespace Go.Proofs.YtfdebgebnkbagaaDoor
open Go Go.AM Go.RowKit
def be : Nat → Nat → List UInt8
  | 0, _ => []
  | j + 1, m => UInt8.ofNat (m / 256 ^ j) :: be j m
def ord64 (n : Int) : Nat := (n + 9223372036854775808).toNat
theorem xor_top (x : Nat) (h : x < 18446744073709551616) : x ^^^ 9223372036854775808 = (x + 9223372036854775808) % 18446744073709551616 := by
  have h1 : (x ^^^ 9223372036854775808) / 2 ^ 63 = (x / 2 ^ 63) ^^^ (9223372036854775808 / 2 ^ 63) := Nat.xor_div_two_pow
  have h2 : (x ^^^ 9223372036854775808) % 2 ^ 63 = (x % 2 ^ 63) ^^^ (9223372036854775808 % 2 ^ 63) := Nat.xor_mod_two_pow
  have e1 : (9223372036854775808 : Nat) / 2 ^ 63 = 1 := by decide
  have e2 : (9223372036854775808 : Nat) % 2 ^ 63 = 0 := by decide
  have e3 : (2 : Nat) ^ 63 = 9223372036854775808 := by decide
  rw [e1] at h1
  rw [e2, Nat.xor_zero] at h2
  rw [e3] at h1 h2
  have : x / 9223372036854775808 = 0 ∨ x / 9223372036854775808 = 1 := by omega
  rcases this with h3 | h3
  · rw [h3] at h1
    have : (0 : Nat) ^^^ 1 = 1 := by decide
    omega
  · rw [h3] at h1
    have : (1 : Nat) ^^^ 1 = 0 := by decide
    omega
theorem bv_top (x : Nat) (h : x < 18446744073709551616) : (BitVec.ofInt 64 (x : Int) ^^^ BitVec.ofInt 64 9223372036854775808).toNat = (x + 9223372036854775808) % 18446744073709551616 := by
  rw [BitVec.toNat_xor, BitVec.ofInt_natCast, BitVec.toNat_ofNat]
  have : (BitVec.ofInt 64 9223372036854775808).toNat = 9223372036854775808 := rfl
  rw [this, Nat.mod_eq_of_lt h, xor_top x h]
theorem flip64 {n : Int} (h : I64 n) : IntKind.u64.wrap ((BitVec.ofInt 64 (IntKind.u64.wrap n) ^^^ BitVec.ofInt 64 9223372036854775808).toNat : Int) = (ord64 n : Int) := by
  obtain ⟨h1, h2⟩ := h
  have hw : IntKind.u64.wrap n = ((n % 18446744073709551616).toNat : Int) := by rw [wrap_u64]; omega
  rw [hw, bv_top _ (by omega), wrap_u64]
  unfold ord64
  omega
theorem shr8 (m j : Nat) : IntKind.u8.wrap (Int.fdiv (m : Int) (2 ^ (8 * j))) = ((UInt8.ofNat (m / 256 ^ j)).toNat : Int) := by
  have h1 : (2 : Int) ^ (8 * j) = ((256 ^ j : Nat) : Int) := by
    rw [Int.pow_mul, Int.natCast_pow]
    rfl
  rw [h1, Int.fdiv_eq_ediv_of_nonneg _ (Int.natCast_nonneg _), wrap_u8, ← Int.natCast_ediv]
  simp
def byPV (b : UInt8) : PV := .int .u8 b.toNat
def stE (a b : List PV) : St := ⟨0, 2, [(0, .var a), (1, .var b)]⟩
def zer (j : Nat) : List PV := List.replicate j (.int .u8 0)
theorem be_len : ∀ (j m : Nat), (be j m).length = j
  | 0, m => rfl
  | j + 1, m => by simp [be, be_len j m]
theorem eight_loop (m : Nat) : ∀ (j : Nat) (pre : List UInt8) (e : EC), pre.length + j = 8 → pre ++ be j m = be 8 m → e.get 2 = some (.ptr 0 0) → e.get 3 = some (.ptr 1 0) → e.get 4 = some (.int .u64 m) → e.get 9 = some (.int .i64 pre.length) →
    V T (PE fun x e' st' => x = .exit 0 ∧ e' = .put 2 (.ptr 0 0) (.put 3 (.ptr 1 0) .nil) ∧ st' = stE (zer 8) ((be 8 m).map byPV)) [.code (.loop lp_codec_eight_0)] .normal e (stE (zer 8) (pre.map byPV ++ zer j)) := by
  intro j
  induction j with
  | zero =>
    intro pre e hl hb h2 h3 h4 h9
    have out : ∀ (fr : List Fr) (x : EX) (e' : EC), adv 200 fr x = ([], .exit 0) → e'.get 2 = some (.ptr 0 0) → e'.get 3 = some (.ptr 1 0) → V T (PE fun x e' st' => x = .exit 0 ∧ e' = .put 2 (.ptr 0 0) (.put 3 (.ptr 1 0) .nil) ∧ st' = stE (zer 8) ((be 8 m).map byPV)) fr x e' (stE (zer 8) (pre.map byPV ++ zer 0)) := fun fr x e' hadv g2 g3 =>
      V_less (.put 2 _ (.put 3 _ .nil)) (less_put g2 (less_put g3 less_nil)) (V_endP hadv ⟨rfl, rfl, by
        have hp : pre = be 8 m := by rw [← hb]; simp [be]
        rw [hp]; simp [zer]⟩)
    refine V_less (.put 2 _ (.put 3 _ (.put 9 _ .nil))) (less_put h2 (less_put h3 (less_put h9 less_nil))) (V_unroll ?_)
    repeat' first | refine out _ _ _ rfl rfl rfl | refine V_O rfl ?_ | refine O_step rfl ?_ | refine O_nil' ?_ | refine V_cT rfl rfl ?_ | refine V_cF rfl rfl ?_ | refine V_cEq rfl rfl ?_ | refine V_cNe rfl rfl ?_ | refine V_cB rfl rfl (fun _ => ?_) (fun _ => ?_) | refine O_gT' rfl ?_ | refine O_gU' rfl ?_ | refine O_gF' rfl rfl ?_ | refine O_gEq rfl ?_ | refine O_gNe rfl ?_ | refine O_gS rfl (fun _ => ?_) (fun _ => ?_) | refine V_fA rfl rfl ?_ | refine V_fAN rfl rfl ?_ | refine V_D rfl ?_ | refine D_step rfl ?_ | refine D_nil' ?_ | refine D_gT' rfl ?_ | refine D_gU' rfl ?_ | refine D_gF' rfl rfl ?_ | refine D_gS rfl (fun _ => ?_) (fun _ => ?_)
    all_goals (exfalso; clear out; simp at *; omega)
  | succ j ih =>
    intro pre e hl hb h2 h3 h4 h9
    have hw1 : IntKind.i64.wrap (8 * (pre.length : Int)) = 8 * pre.length := by rw [wrap_i64]; omega
    have hw2 : IntKind.i64.wrap (56 - IntKind.i64.wrap (8 * (pre.length : Int))) = ((8 * j : Nat) : Int) := by rw [hw1, wrap_i64]; omega
    have hsh : Int.fdiv (m : Int) (2 ^ (min (IntKind.i64.wrap (56 - IntKind.i64.wrap (8 * (pre.length : Int)))).toNat IntKind.u64.bits)) = Int.fdiv (m : Int) (2 ^ (8 * j)) := by
      rw [hw2, show IntKind.u64.bits = 64 from rfl, Nat.min_eq_left (by omega), show ((8 * j : Nat) : Int).toNat = 8 * j by omega]
    have hd : (pre.map byPV ++ zer (j + 1)).take (0 + (pre.length : Int).toNat * 1) ++ PV.int .u8 (IntKind.u8.wrap (Int.fdiv (m : Int) (2 ^ (min (IntKind.i64.wrap (56 - IntKind.i64.wrap (8 * (pre.length : Int)))).toNat IntKind.u64.bits)))) :: (pre.map byPV ++ zer (j + 1)).drop (0 + (pre.length : Int).toNat * 1 + 1) = (pre ++ [UInt8.ofNat (m / 256 ^ j)]).map byPV ++ zer j := by
      rw [hsh, shr8, show 0 + (pre.length : Int).toNat * 1 = (pre.map byPV).length by simp]
      rw [List.take_left, ← List.drop_drop, List.drop_left]
      simp [zer, byPV, List.replicate_succ]
    have hln : 0 + (pre.length : Int).toNat * 1 + 1 ≤ (pre.map byPV ++ zer (j + 1)).length := by simp [zer]
    have hnb : ¬ IntKind.i64.wrap (56 - IntKind.i64.wrap (8 * (pre.length : Int))) < 0 := by rw [hw2]; omega
    have hix : 0 ≤ (pre.length : Int) ∧ (pre.length : Int) < (8 : Nat) := by omega
    have fin : ∀ (fr : List Fr) (x : EX) (e' : EC), adv 200 fr x = ([.code (.loop lp_codec_eight_0)], .normal) → e'.get 2 = some (.ptr 0 0) → e'.get 3 = some (.ptr 1 0) → e'.get 4 = some (.int .u64 m) → e'.get 9 = some (.int .i64 (IntKind.i64.wrap (pre.length + 1))) → V T (PE fun x e' st' => x = .exit 0 ∧ e' = .put 2 (.ptr 0 0) (.put 3 (.ptr 1 0) .nil) ∧ st' = stE (zer 8) ((be 8 m).map byPV)) fr x e' (stE (zer 8) ((pre ++ [UInt8.ofNat (m / 256 ^ j)]).map byPV ++ zer j)) := fun fr x e' hadv g2 g3 g4 g9 => V_adv hadv (by
      have hw : IntKind.i64.wrap (pre.length + 1) = ((pre ++ [UInt8.ofNat (m / 256 ^ j)]).length : Int) := by rw [wrap_i64]; simp; omega
      rw [hw] at g9
      exact ih _ e' (by simp; omega) (by rw [← hb]; simp [be]) g2 g3 g4 g9)
    refine V_less (.put 2 _ (.put 3 _ (.put 4 _ (.put 9 _ .nil)))) (less_put h2 (less_put h3 (less_put h4 (less_put h9 less_nil)))) (V_unroll ?_)
    repeat' first | refine O_shr rfl rfl hnb ?_ | refine O_idxA rfl rfl hix ?_ | refine O_storeP rfl rfl rfl rfl rfl hln hd ?_ | refine fin _ _ _ rfl rfl rfl rfl rfl | refine V_O rfl ?_ | refine O_step rfl ?_ | refine O_nil' ?_ | refine V_cT rfl rfl ?_ | refine V_cF rfl rfl ?_ | refine V_cEq rfl rfl ?_ | refine V_cNe rfl rfl ?_ | refine V_cB rfl rfl (fun _ => ?_) (fun _ => ?_) | refine O_gT' rfl ?_ | refine O_gU' rfl ?_ | refine O_gF' rfl rfl ?_ | refine O_gEq rfl ?_ | refine O_gNe rfl ?_ | refine O_gS rfl (fun _ => ?_) (fun _ => ?_) | refine V_fA rfl rfl ?_ | refine V_fAN rfl rfl ?_ | refine V_D rfl ?_ | refine D_step rfl ?_ | refine D_nil' ?_ | refine D_gT' rfl ?_ | refine D_gU' rfl ?_ | refine D_gF' rfl rfl ?_ | refine D_gS rfl (fun _ => ?_) (fun _ => ?_)
    all_goals (exfalso; clear fin ih hd hln hnb hsh hw1 hw2; simp at *; omega)
theorem run_eight {n : Int} (hn : I64 n) : T.R (.call n_codec_eight [.int .i64 n] (.agg ((be 8 (ord64 n)).map byPV))) := by
  have hu := flip64 hn
  generalize ord64 n = m at hu ⊢
  have hlen : ((be 8 m).map byPV).length = 8 := by simp [be_len]
  have hl := fun e h2 h3 h4 h9 => eight_loop m 8 [] e rfl rfl h2 h3 h4 h9
  have hplc : ∀ c ∈ (be 8 m).map byPV, Pl c := fun c hc => by
    obtain ⟨b, _, rfl⟩ := List.mem_map.1 hc
    exact .int _ _
  have hone : ((be 8 m).map byPV).all PV.one = true := by
    simp [byPV, PV.one]
  refine call_V rfl rfl ?_
  repeat' first | refine O_stepL rfl ?_ | refine V_cutA rfl (hl _ rfl rfl (by rw [← hu]; rfl) rfl) ?_ | refine V_O rfl ?_ | refine O_step rfl ?_ | refine O_nil' ?_ | refine V_cT rfl rfl ?_ | refine V_cF rfl rfl ?_ | refine V_cEq rfl rfl ?_ | refine V_cNe rfl rfl ?_ | refine V_cB rfl rfl (fun _ => ?_) (fun _ => ?_) | refine O_gT' rfl ?_ | refine O_gU' rfl ?_ | refine O_gF' rfl rfl ?_ | refine O_gEq rfl ?_ | refine O_gNe rfl ?_ | refine O_gS rfl (fun _ => ?_) (fun _ => ?_) | refine V_fA rfl rfl ?_ | refine V_fAN rfl rfl ?_ | refine V_D rfl ?_ | refine D_step rfl ?_ | refine D_nil' ?_ | refine D_gT' rfl ?_ | refine D_gU' rfl ?_ | refine D_gF' rfl rfl ?_ | refine D_gS rfl (fun _ => ?_) (fun _ => ?_)
  rintro x e' st' ⟨rfl, rfl, rfl⟩
  generalize (be 8 m).map byPV = cs at hlen hplc hone ⊢
  have hs : storeAt (stE (zer 8) cs) (.ptr 0 0) (.agg cs) = some (stE cs cs) := by
    simp only [storeAt, stE, St.get, getA]
    simp [zer, hlen, splice, St.put, putA, PV.cells]
  repeat' first | refine O_loadP rfl rfl hlen ?_ | refine O_storeV rfl rfl hone hlen rfl hs ?_ | refine V_O rfl ?_ | refine O_step rfl ?_ | refine O_nil' ?_ | refine V_cT rfl rfl ?_ | refine V_cF rfl rfl ?_ | refine V_cEq rfl rfl ?_ | refine V_cNe rfl rfl ?_ | refine V_cB rfl rfl (fun _ => ?_) (fun _ => ?_) | refine O_gT' rfl ?_ | refine O_gU' rfl ?_ | refine O_gF' rfl rfl ?_ | refine O_gEq rfl ?_ | refine O_gNe rfl ?_ | refine O_gS rfl (fun _ => ?_) (fun _ => ?_) | refine V_fA rfl rfl ?_ | refine V_fAN rfl rfl ?_ | refine V_D rfl ?_ | refine D_step rfl ?_ | refine D_nil' ?_ | refine D_gT' rfl ?_ | refine D_gU' rfl ?_ | refine D_gF' rfl rfl ?_ | refine D_gS rfl (fun _ => ?_) (fun _ => ?_)
  have hrr : loadAt (stE cs cs).get 8 true (.ptr 0 0) = some (.agg cs) := by
    simp only [loadAt, behind, stE, St.get, getA, Option.bind_some]
    simp only [slice?, if_true]
    rw [← hlen]
    simp
  exact V_fin (r0 := .agg cs) rfl (resG_cell rfl hrr) (Pl.view (.agg _ hplc)) rfl
end Go.Proofs.YtfdebgebnkbagaaDoor

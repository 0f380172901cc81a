/- codec.Take and rambleref03.Take, but for texts: the numbers' loops. -/
import Derived.Test.YtfdebgebnkbagaaDoorCodI
import Derived.Test.YtfdebgebnkbagaaDoorCodD
set_option linter.unusedVariables false
set_option linter.unusedSimpArgs false
namespace Go.Proofs.YtfdebgebnkbagaaDoor
open Go Go.AM Go.RowKit
theorem trPV_form : ∀ t : TR, ∃ (a b : Int) (s : List UInt8) (c d : Int), trPV t = .tuple [.agg [.int .i64 a, .int .i64 b, .str s, .nilSl], .int .i64 c, .int .i64 d]
  | .err e => ⟨_, _, _, _, _, rfl⟩
  | .ok (.mk k n s l) m => ⟨_, _, _, _, _, rfl⟩
theorem take_loop (q : PV) (l : List UInt8) (hq : BV q l) (hl8 : l.length = 8) (a b : PV) : ∀ (rest pre : List UInt8) (e : EC) (st : St), l = pre ++ rest → e.get 2 = some a → e.get 5 = some b → e.get 6 = some (.int .u64 (un8 pre : Nat)) → e.get 35 = some q → e.get 36 = some (.int .i64 8) → e.get 37 = some (.int .i64 pre.length) →
    V T (PE fun x e' st' => x = .exit 1 ∧ st' = st ∧ e' = .put 2 a (.put 5 b (.put 6 (.int .u64 (un8 l : Nat)) .nil))) [.code (.loop lp_codec_Take_0)] .normal e st := by
  intro rest
  induction rest with
  | nil =>
    intro pre e st hl h2 h5 h6 h35 h36 h37
    have hp8 : pre = l := by rw [hl]; simp
    have hlt : decide ((pre.length : Int) < 8) = false := decide_eq_false (by rw [hp8, hl8]; decide)
    rw [hp8] at h6
    have out : ∀ (fr : List Fr) (x : EX) (e' : EC), adv 200 fr x = ([], .exit 1) → e'.get 2 = some a → e'.get 5 = some b → e'.get 6 = some (.int .u64 (un8 l : Nat)) → V T (PE fun x e' st' => x = .exit 1 ∧ st' = st ∧ e' = .put 2 a (.put 5 b (.put 6 (.int .u64 (un8 l : Nat)) .nil))) fr x e' st := fun fr x e' hadv g2 g5 g6 =>
      V_less (.put 2 a (.put 5 b (.put 6 _ .nil))) (less_put g2 (less_put g5 (less_put g6 less_nil))) (V_endP hadv ⟨rfl, rfl, rfl⟩)
    refine V_less (.put 2 a (.put 5 b (.put 6 _ (.put 36 _ (.put 37 _ .nil))))) (less_put h2 (less_put h5 (less_put h6 (less_put h36 (less_put h37 less_nil))))) (V_unroll ?_)
    repeat' first | refine V_cH hlt rfl rfl ?_ | refine out _ _ _ rfl rfl rfl rfl | refine V_O rfl ?_ | refine O_step rfl ?_ | refine O_nil' ?_ | refine V_cT rfl rfl ?_ | refine V_cF rfl rfl ?_ | refine V_cEq rfl rfl ?_ | refine V_cNe rfl rfl ?_ | refine V_cB rfl rfl (fun _ => ?_) (fun _ => ?_) | refine O_gT' rfl ?_ | refine O_gU' rfl ?_ | refine O_gF' rfl rfl ?_ | refine O_gEq rfl ?_ | refine O_gNe rfl ?_ | refine O_gS rfl (fun _ => ?_) (fun _ => ?_) | refine V_fA rfl rfl ?_ | refine V_fAN rfl rfl ?_ | refine V_D rfl ?_ | refine D_step rfl ?_ | refine D_nil' ?_ | refine D_gT' rfl ?_ | refine D_gU' rfl ?_ | refine D_gF' rfl rfl ?_ | refine D_gS rfl (fun _ => ?_) (fun _ => ?_)
  | cons c rest ih =>
    intro pre e st hl h2 h5 h6 h35 h36 h37
    have hpl : pre.length + 1 ≤ 8 := by rw [← hl8, hl]; simp
    have hlt : decide ((pre.length : Int) < 8) = true := decide_eq_true (by omega)
    have hat := hq.at (n := (pre.length : Int)) (b := c) (by omega) (by rw [hl]; simp)
    have hw : IntKind.i64.wrap ((pre.length : Int) + 1) = ((pre ++ [c]).length : Int) := by rw [wrap_i64]; simp; omega
    have hu : un8 pre < 72057594037927936 := by
      have h1 := un8_lt pre
      have h2 : (256 : Nat) ^ pre.length ≤ 256 ^ 7 := Nat.pow_le_pow_right (by omega) (by omega)
      have h3 : (256 : Nat) ^ 7 = 72057594037927936 := by decide
      omega
    have ho := or8 (un8 pre) c.toNat hu c.toNat_lt
    rw [← un8_snoc] at ho
    have fin : ∀ (fr : List Fr) (x : EX) (e' : EC), adv 200 fr x = ([.code (.loop lp_codec_Take_0)], .normal) → e'.get 2 = some a → e'.get 5 = some b → e'.get 6 = some (.int .u64 (IntKind.u64.wrap ((BitVec.ofInt 64 (IntKind.u64.wrap (((un8 pre : Nat) : Int) * 2 ^ (min (8 : Int).toNat IntKind.u64.bits))) ||| BitVec.ofInt 64 (IntKind.u64.wrap (c.toNat : Int))).toNat : Int))) → e'.get 35 = some q → e'.get 36 = some (.int .i64 8) → e'.get 37 = some (.int .i64 (IntKind.i64.wrap ((pre.length : Int) + 1))) → V T (PE fun x e' st' => x = .exit 1 ∧ st' = st ∧ e' = .put 2 a (.put 5 b (.put 6 (.int .u64 (un8 l : Nat)) .nil))) fr x e' st := fun fr x e' hadv g2 g5 g6 g35 g36 g37 => V_adv hadv (by
      rw [hw] at g37
      rw [ho] at g6
      exact ih (pre ++ [c]) e' st (by rw [hl]; simp) g2 g5 g6 g35 g36 g37)
    refine V_less (.put 2 a (.put 5 b (.put 6 _ (.put 35 q (.put 36 _ (.put 37 _ .nil)))))) (less_put h2 (less_put h5 (less_put h6 (less_put h35 (less_put h36 (less_put h37 less_nil)))))) (V_unroll ?_)
    clear ih
    repeat' first | refine V_cHT hlt rfl rfl ?_ | refine O_at rfl rfl hat ?_ | refine fin _ _ _ rfl rfl rfl rfl rfl rfl rfl | refine V_O rfl ?_ | refine O_step rfl ?_ | refine O_nil' ?_ | refine V_cT rfl rfl ?_ | refine V_cF rfl rfl ?_ | refine V_cEq rfl rfl ?_ | refine V_cNe rfl rfl ?_ | refine V_cB rfl rfl (fun _ => ?_) (fun _ => ?_) | refine O_gT' rfl ?_ | refine O_gU' rfl ?_ | refine O_gF' rfl rfl ?_ | refine O_gEq rfl ?_ | refine O_gNe rfl ?_ | refine O_gS rfl (fun _ => ?_) (fun _ => ?_) | refine V_fA rfl rfl ?_ | refine V_fAN rfl rfl ?_ | refine V_D rfl ?_ | refine D_step rfl ?_ | refine D_nil' ?_ | refine D_gT' rfl ?_ | refine D_gU' rfl ?_ | refine D_gF' rfl rfl ?_ | refine D_gS rfl (fun _ => ?_) (fun _ => ?_)
end Go.Proofs.YtfdebgebnkbagaaDoor

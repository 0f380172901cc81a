/- A value out of a key's bytes: what is told; codec.made, codec.none, rambleref03.checked. -/
import Derived.Test.YtfdebgebnkbagaaDoorValJ
import Derived.Test.YtfdebgebnkbagaaDoorCodB
import Derived.Test.YtfdebgebnkbagaaDoorAmZ
set_option linter.unusedVariables false
set_option linter.unusedSimpArgs false
namespace Go.Proofs.YtfdebgebnkbagaaDoor
open Go Go.AM Go.RowKit
inductive TR where
  | err (e : Int)
  | ok (v : Val) (n : Nat)
def made (v : Val) (n : Nat) : TR := if mayV 8 v then .ok v n else .err 30
def strR : List UInt8 → List UInt8 → Nat → TR
  | [], _, _ => .err 11
  | [b], acc, n => if b = 0 then .err 11 else .err 11
  | b :: c :: r, acc, n => if b = 0 then (if c = 1 then made (.mk 2 0 acc []) (n + 2) else if c = 255 then strR r (acc ++ [0]) (n + 2) else .err 30) else strR (c :: r) (acc ++ [b]) (n + 1)
def un8 (l : List UInt8) : Nat := l.foldl (fun u c => u * 256 + c.toNat) 0
def unord (u : Nat) : Int := (u : Int) - 9223372036854775808
def takeR : List UInt8 → TR
  | [] => .err 11
  | c :: r => if c = 1 ∨ c = 6 ∨ c = 7 then (if r.length < 8 then .err 11 else made (.mk c.toNat (unord (un8 (r.take 8))) [] []) 9)
    else if c = 3 then (match r with
      | [] => .err 11
      | d :: _ => made (.mk 3 d.toNat [] []) 2)
    else if c = 2 then strR r [] 1 else .err 30
def trPV : TR → PV
  | .err e => .tuple [.agg [.int .i64 0, .int .i64 0, .str [], .nilSl], .int .i64 0, .int .i64 e]
  | .ok (.mk k n s _) m => .tuple [.agg [.int .i64 k, .int .i64 n, .str s, .nilSl], .int .i64 m, .int .i64 0]
theorem un8_snoc (l : List UInt8) (c : UInt8) : un8 (l ++ [c]) = un8 l * 256 + c.toNat := by simp [un8, List.foldl_append]
theorem foldl_lt : ∀ (l : List UInt8) (u m : Nat), u < 256 ^ m → l.foldl (fun u c => u * 256 + c.toNat) u < 256 ^ (m + l.length)
  | [], u, m, h => h
  | c :: l, u, m, h => by
    have hc := c.toNat_lt
    have h1 : u * 256 + c.toNat < 256 ^ (m + 1) := by rw [Nat.pow_succ]; omega
    have := foldl_lt l (u * 256 + c.toNat) (m + 1) h1
    simp only [List.foldl_cons, List.length_cons]
    rw [show m + (l.length + 1) = m + 1 + l.length by omega]
    exact this
theorem un8_lt (l : List UInt8) : un8 l < 256 ^ l.length := by
  have := foldl_lt l 0 0 (by decide)
  simpa [un8] using this
theorem or8 (u c : Nat) (hu : u < 72057594037927936) (hc : c < 256) : IntKind.u64.wrap ((BitVec.ofInt 64 (IntKind.u64.wrap ((u : Int) * 2 ^ (min (8 : Int).toNat IntKind.u64.bits))) ||| BitVec.ofInt 64 (IntKind.u64.wrap (c : Int))).toNat : Int) = ((u * 256 + c : Nat) : Int) := by
  have e1 : (2 : Int) ^ (min (8 : Int).toNat IntKind.u64.bits) = 256 := rfl
  have a : IntKind.u64.wrap ((u : Int) * 256) = ((u * 256 : Nat) : Int) := by rw [wrap_u64]; omega
  have b : IntKind.u64.wrap (c : Int) = (c : Int) := by rw [wrap_u64]; omega
  rw [e1, a, b, BitVec.toNat_or, BitVec.ofInt_natCast, BitVec.ofInt_natCast, BitVec.toNat_ofNat, BitVec.toNat_ofNat, Nat.mod_eq_of_lt (by omega), Nat.mod_eq_of_lt (by omega)]
  have h := Nat.shiftLeft_add_eq_or_of_lt (i := 8) (b := c) (by simpa using hc) u
  rw [Nat.shiftLeft_eq] at h
  have e3 : (2 : Nat) ^ 8 = 256 := rfl
  rw [e3] at h
  rw [← h, wrap_u64]
  omega
theorem unflip (u : Nat) (hu : u < 18446744073709551616) : IntKind.i64.wrap (IntKind.u64.wrap ((BitVec.ofInt 64 (u : Int) ^^^ BitVec.ofInt 64 9223372036854775808).toNat : Int)) = unord u := by
  rw [bv_top u hu, wrap_u64, wrap_i64]
  unfold unord
  omega
theorem run_none (e : Int) : T.R (.call n_codec_none [.int .i64 e] (trPV (.err e))) := by
  refine call_V rfl rfl ?_
  repeat' first | refine O_stepL rfl ?_ | refine V_O rfl ?_ | refine O_step rfl ?_ | refine O_nil' ?_ | refine V_cT rfl rfl ?_ | refine V_cF rfl rfl ?_ | refine V_cEq rfl rfl ?_ | refine V_cNe rfl rfl ?_ | refine V_cB rfl rfl (fun _ => ?_) (fun _ => ?_) | refine O_gT' rfl ?_ | refine O_gU' rfl ?_ | refine O_gF' rfl rfl ?_ | refine O_gEq rfl ?_ | refine O_gNe rfl ?_ | refine O_gS rfl (fun _ => ?_) (fun _ => ?_) | refine V_fA rfl rfl ?_ | refine V_fAN rfl rfl ?_ | refine V_D rfl ?_ | refine D_step rfl ?_ | refine D_nil' ?_ | refine D_gT' rfl ?_ | refine D_gU' rfl ?_ | refine D_gF' rfl rfl ?_ | refine D_gS rfl (fun _ => ?_) (fun _ => ?_)
  rfl
theorem run_made (k n : Int) (s : List UInt8) (m : Nat) (hk : I64 k) (hn : I64 n) (hs : s.length ≤ 140737488355328) : T.R (.call n_codec_made [.agg [.int .i64 k, .int .i64 n, .str s, .nilSl], .int .i64 m] (trPV (made (.mk k n s []) m))) := by
  have hchk := run_Check (VC.nil k n s hk hn hs)
  unfold made
  by_cases hm : mayV 8 (.mk k n s []) = true
  · have hc : chk (.mk k n s []) = 0 := by simp [chk, hm]
    rw [hc] at hchk
    rw [if_pos hm]
    refine call_V rfl rfl ?_
    repeat' first | refine O_cA rfl rfl hchk ?_ | refine O_step rfl ?_ | refine O_stepL rfl ?_ | refine V_O rfl ?_ | refine O_step rfl ?_ | refine O_nil' ?_ | refine V_cT rfl rfl ?_ | refine V_cF rfl rfl ?_ | refine V_cEq rfl rfl ?_ | refine V_cNe rfl rfl ?_ | refine V_cB rfl rfl (fun _ => ?_) (fun _ => ?_) | refine O_gT' rfl ?_ | refine O_gU' rfl ?_ | refine O_gF' rfl rfl ?_ | refine O_gEq rfl ?_ | refine O_gNe rfl ?_ | refine O_gS rfl (fun _ => ?_) (fun _ => ?_) | refine V_fA rfl rfl ?_ | refine V_fAN rfl rfl ?_ | refine V_D rfl ?_ | refine D_step rfl ?_ | refine D_nil' ?_ | refine D_gT' rfl ?_ | refine D_gU' rfl ?_ | refine D_gF' rfl rfl ?_ | refine D_gS rfl (fun _ => ?_) (fun _ => ?_)
    rfl
  · have hc : chk (.mk k n s []) = 20 := by simp [chk, hm]
    rw [hc] at hchk
    rw [if_neg hm]
    refine call_V rfl rfl ?_
    repeat' first | refine O_cA rfl rfl hchk ?_ | refine O_step rfl ?_ | refine O_stepL rfl ?_ | refine V_O rfl ?_ | refine O_step rfl ?_ | refine O_nil' ?_ | refine V_cT rfl rfl ?_ | refine V_cF rfl rfl ?_ | refine V_cEq rfl rfl ?_ | refine V_cNe rfl rfl ?_ | refine V_cB rfl rfl (fun _ => ?_) (fun _ => ?_) | refine O_gT' rfl ?_ | refine O_gU' rfl ?_ | refine O_gF' rfl rfl ?_ | refine O_gEq rfl ?_ | refine O_gNe rfl ?_ | refine O_gS rfl (fun _ => ?_) (fun _ => ?_) | refine V_fA rfl rfl ?_ | refine V_fAN rfl rfl ?_ | refine V_D rfl ?_ | refine D_step rfl ?_ | refine D_nil' ?_ | refine D_gT' rfl ?_ | refine D_gU' rfl ?_ | refine D_gF' rfl rfl ?_ | refine D_gS rfl (fun _ => ?_) (fun _ => ?_)
    rfl
theorem run_Str (s : List UInt8) : T.R (.call n_value_Str [.str s] (.agg [.int .i64 2, .int .i64 0, .str s, .nilSl])) := by
  refine call_V rfl rfl ?_
  repeat' first | refine O_stepL rfl ?_ | refine V_O rfl ?_ | refine O_step rfl ?_ | refine O_nil' ?_ | refine V_cT rfl rfl ?_ | refine V_cF rfl rfl ?_ | refine V_cEq rfl rfl ?_ | refine V_cNe rfl rfl ?_ | refine V_cB rfl rfl (fun _ => ?_) (fun _ => ?_) | refine O_gT' rfl ?_ | refine O_gU' rfl ?_ | refine O_gF' rfl rfl ?_ | refine O_gEq rfl ?_ | refine O_gNe rfl ?_ | refine O_gS rfl (fun _ => ?_) (fun _ => ?_) | refine V_fA rfl rfl ?_ | refine V_fAN rfl rfl ?_ | refine V_D rfl ?_ | refine D_step rfl ?_ | refine D_nil' ?_ | refine D_gT' rfl ?_ | refine D_gU' rfl ?_ | refine D_gF' rfl rfl ?_ | refine D_gS rfl (fun _ => ?_) (fun _ => ?_)
  rfl
end Go.Proofs.YtfdebgebnkbagaaDoor

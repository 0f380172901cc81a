/- script.word, text, Keep; rambleref25.word, asks, lineEnd, cut, number, Keep; slices.Equal of truths. · rambleref25.asks, lineEnd, cut, number; strings.Contains of a line's end; script.text, keep. · script.Line, rambleref25.Line. -/
import Derived.Test.YtbeaalkfakjoiaaDoorNumBToStrCut
import Derived.Test.YtbeaalkfakjoiaaDoorAmZ
set_option linter.unusedVariables false
set_option linter.unusedSimpArgs false
namespace Go.Proofs.YtbeaalkfakjoiaaDoor
open Go Go.AM Go.RowKit
def bc (b : Bool) : List PV := [.bool b]
def bitsF : Nat → Nat → List Bool
  | 0, _ => []
  | k + 1, u => if u = 0 then [] else (decide (u % 2 = 1)) :: bitsF k (u / 2)
theorem and1 (u : Nat) (hu : u < 9223372036854775808) : IntKind.i64.wrap ((BitVec.ofInt 64 (u : Int) &&& BitVec.ofInt 64 (1 : Int)).toNat : Int) = ((u % 2 : Nat) : Int) := by
  have e1 : BitVec.ofInt 64 (1 : Int) = BitVec.ofNat 64 1 := rfl
  rw [e1, BitVec.toNat_and, BitVec.ofInt_natCast, BitVec.toNat_ofNat, BitVec.toNat_ofNat, Nat.mod_eq_of_lt (by omega), show 1 % 2 ^ 64 = 1 from rfl, Nat.and_one_is_mod, wrap_i64]
  omega
theorem keep_loop : ∀ (k u : Nat) (acc : List Bool) (st : St) (v : PV), u < 2 ^ k → k ≤ 63 → acc.length + k ≤ 1000 → AccT 1 st v (acc.map bc) →
    V T (PE fun x e st' => x = .exit 0 ∧ ∃ v', e = ecOf [(3, v')] ∧ AccT 1 st' v' ((acc ++ bitsF k u).map bc)) [.code (.loop lp_script_Keep_0)] .normal (ecOf [(0, .int .i64 u), (3, v)]) st := by
  intro k
  have stop : ∀ (acc : List Bool) (st : St) (v : PV), AccT 1 st v (acc.map bc) → V T (PE fun x e st' => x = .exit 0 ∧ ∃ v', e = ecOf [(3, v')] ∧ AccT 1 st' v' (acc.map bc)) [.code (.loop lp_script_Keep_0)] .normal (ecOf [(0, .int .i64 (0 : Nat)), (3, v)]) st := by
    intro acc st v hA
    refine V_unroll ?_
    repeat' first | ((with_reducible show V _ _ _ _ _ _); first | refine V_out [(3, v)] rfl ⟨rfl, trivial⟩ ⟨rfl, v, rfl, hA⟩ | refine V_O rfl ?_ | refine V_cT rfl rfl ?_ | refine V_cF rfl rfl ?_ | refine V_cEq rfl rfl ?_ | refine V_cNe rfl rfl ?_ | refine V_cB rfl rfl (fun _ => ?_) (fun _ => ?_) | refine V_fA rfl rfl ?_ | refine V_fAN rfl rfl ?_ | refine V_D rfl ?_) | ((with_reducible show VO _ _ _ _ _ _ _); first | refine O_step rfl ?_ | refine O_nil' ?_ | refine O_gT' rfl ?_ | refine O_gU' rfl ?_ | refine O_gF' rfl rfl ?_ | refine O_gEq rfl ?_ | refine O_gNe rfl ?_ | refine O_gS rfl (fun _ => ?_) (fun _ => ?_)) | ((with_reducible show VD _ _ _ _ _ _ _); first | refine D_step rfl ?_ | refine D_nil' ?_ | refine D_gT' rfl ?_ | refine D_gU' rfl ?_ | refine D_gF' rfl rfl ?_ | refine D_gS rfl (fun _ => ?_) (fun _ => ?_))
  induction k with
  | zero =>
    intro u acc st v hu hk hl hA
    have : u = 0 := by simpa using hu
    subst this
    have := stop acc st v hA
    simpa [bitsF] using this
  | succ k ih =>
    intro u acc st v hu hk hl hA
    by_cases h0 : u = 0
    · subst h0
      have := stop acc st v hA
      simpa [bitsF] using this
    · have h63 : (2 : Nat) ^ (k + 1) ≤ 2 ^ 63 := Nat.pow_le_pow_right (by omega) hk
      have p63 : (2 : Nat) ^ 63 = 9223372036854775808 := rfl
      have hpos : PV.bool (decide ((0 : Int) < u)) = PV.bool true := dec_is (by omega)
      have e1 : PV.int .i64 (IntKind.i64.wrap ((BitVec.ofInt 64 (u : Int) &&& BitVec.ofInt 64 (1 : Int)).toNat : Int)) = PV.int .i64 ((u % 2 : Nat) : Int) := int_is (and1 u (by omega))
      have e2 : PV.bool (decide (((u % 2 : Nat) : Int) = 1)) = PV.bool (decide (u % 2 = 1)) := by
        congr 1
        rw [Bool.eq_iff_iff, decide_eq_true_eq, decide_eq_true_eq]
        omega
      have e3 : PV.int .i64 (Int.fdiv (u : Int) (2 ^ (min (1 : Int).toNat IntKind.i64.bits))) = PV.int .i64 ((u / 2 : Nat) : Int) := int_is (by
        rw [show (2 : Int) ^ (min (1 : Int).toNat IntKind.i64.bits) = 2 from rfl, Int.fdiv_eq_ediv_of_nonneg _ (by omega)]
        omega)
      obtain ⟨v', st', k1, k2, k3⟩ := hA.grow (bytes := 1) (src := [bc (decide (u % 2 = 1))]) (by simp) (by simp only [List.length_map, List.length_singleton, roomLen]; omega)
      have hf : (acc ++ [decide (u % 2 = 1)]).map bc = acc.map bc ++ [bc (decide (u % 2 = 1))] := by simp
      have hi := ih (u / 2) (acc ++ [decide (u % 2 = 1)]) st' v' (by rw [Nat.pow_succ] at hu; omega) (by omega) (by simp; omega) (by rw [hf]; exact k2)
      have hb : acc ++ bitsF (k + 1) u = acc ++ [decide (u % 2 = 1)] ++ bitsF k (u / 2) := by rw [bitsF, if_neg h0]; simp
      rw [hb]
      refine V_unroll ?_
      repeat' first | ((with_reducible show V _ _ _ _ _ _); first | refine V_re rfl hi ⟨rfl, rfl, trivial⟩ | refine V_O rfl ?_ | refine V_cT rfl rfl ?_ | refine V_cF rfl rfl ?_ | refine V_cEq rfl rfl ?_ | refine V_cNe rfl rfl ?_ | refine V_cB rfl rfl (fun _ => ?_) (fun _ => ?_) | refine V_fA rfl rfl ?_ | refine V_fAN rfl rfl ?_ | refine V_D rfl ?_) | ((with_reducible show VO _ _ _ _ _ _ _); first | refine O_is hpos rfl ?_ | refine O_is e1 rfl ?_ | refine O_is e2 rfl ?_ | refine O_is e3 rfl ?_ | refine O_append rfl rfl rfl rfl (by decide) (by decide) k1 ?_ | refine O_step rfl ?_ | refine O_nil' ?_ | refine O_gT' rfl ?_ | refine O_gU' rfl ?_ | refine O_gF' rfl rfl ?_ | refine O_gEq rfl ?_ | refine O_gNe rfl ?_ | refine O_gS rfl (fun _ => ?_) (fun _ => ?_)) | ((with_reducible show VD _ _ _ _ _ _ _); first | refine D_step rfl ?_ | refine D_nil' ?_ | refine D_gT' rfl ?_ | refine D_gU' rfl ?_ | refine D_gF' rfl rfl ?_ | refine D_gS rfl (fun _ => ?_) (fun _ => ?_))
theorem pl_bc (l : List Bool) : ∀ cs ∈ l.map bc, ∀ c ∈ cs, Pl c := fun cs h => by
  obtain ⟨n, _, rfl⟩ := List.mem_map.1 h
  exact pl_cons (.bool _) pl_nil
def bitsI (n : Int) : List Bool := bitsF 63 n.toNat
theorem keep_stop {n : Int} (hn : ¬ 0 < n) (acc : List Bool) (st : St) (v : PV) (hA : AccT 1 st v (acc.map bc)) : V T (PE fun x e st' => x = .exit 0 ∧ ∃ v', e = ecOf [(3, v')] ∧ AccT 1 st' v' (acc.map bc)) [.code (.loop lp_script_Keep_0)] .normal (ecOf [(0, .int .i64 n), (3, v)]) st := by
  have hpos : PV.bool (decide ((0 : Int) < n)) = PV.bool false := dec_not hn
  refine V_unroll ?_
  repeat' first | ((with_reducible show V _ _ _ _ _ _); first | refine V_out [(3, v)] rfl ⟨rfl, trivial⟩ ⟨rfl, v, rfl, hA⟩ | refine V_O rfl ?_ | refine V_cT rfl rfl ?_ | refine V_cF rfl rfl ?_ | refine V_cEq rfl rfl ?_ | refine V_cNe rfl rfl ?_ | refine V_cB rfl rfl (fun _ => ?_) (fun _ => ?_) | refine V_fA rfl rfl ?_ | refine V_fAN rfl rfl ?_ | refine V_D rfl ?_) | ((with_reducible show VO _ _ _ _ _ _ _); first | refine O_is hpos rfl ?_ | refine O_step rfl ?_ | refine O_nil' ?_ | refine O_gT' rfl ?_ | refine O_gU' rfl ?_ | refine O_gF' rfl rfl ?_ | refine O_gEq rfl ?_ | refine O_gNe rfl ?_ | refine O_gS rfl (fun _ => ?_) (fun _ => ?_)) | ((with_reducible show VD _ _ _ _ _ _ _); first | refine D_step rfl ?_ | refine D_nil' ?_ | refine D_gT' rfl ?_ | refine D_gU' rfl ?_ | refine D_gF' rfl rfl ?_ | refine D_gS rfl (fun _ => ?_) (fun _ => ?_))
theorem run_Keep {n : Int} (h : R64 n) : ∃ p, T.R (.call n_script_Keep [.int .i64 n] p) ∧ LV bc p (bitsI n) := by
  unfold R64 at h
  have p63 : (2 : Nat) ^ 63 = 9223372036854775808 := rfl
  have hl : V T (PE fun x e st' => x = .exit 0 ∧ ∃ v', e = ecOf [(3, v')] ∧ AccT 1 st' v' ((bitsI n).map bc)) [.code (.loop lp_script_Keep_0)] .normal (ecOf [(0, .int .i64 n), (3, .nilSl)]) emptySt := by
    by_cases h0 : 0 < n
    · have hl := keep_loop 63 n.toNat [] emptySt .nilSl (by omega) (by omega) (by simp) (.inl ⟨rfl, rfl⟩)
      rw [List.nil_append, show ((n.toNat : Nat) : Int) = n by omega] at hl
      exact hl
    · have hb : bitsI n = [] := by unfold bitsI; rw [show n.toNat = 0 by omega]; rfl
      rw [hb]
      exact keep_stop h0 [] emptySt .nilSl (.inl ⟨rfl, rfl⟩)
  refine call_VQ rfl rfl ?_
  repeat' first | ((with_reducible show V _ _ _ _ _ _); first | refine V_cutTo rfl hl ⟨rfl, rfl, trivial⟩ ?_ | refine V_O rfl ?_ | refine V_cT rfl rfl ?_ | refine V_cF rfl rfl ?_ | refine V_cEq rfl rfl ?_ | refine V_cNe rfl rfl ?_ | refine V_cB rfl rfl (fun _ => ?_) (fun _ => ?_) | refine V_fA rfl rfl ?_ | refine V_fAN rfl rfl ?_ | refine V_D rfl ?_) | ((with_reducible show VO _ _ _ _ _ _ _); first | refine O_step rfl ?_ | refine O_nil' ?_ | refine O_gT' rfl ?_ | refine O_gU' rfl ?_ | refine O_gF' rfl rfl ?_ | refine O_gEq rfl ?_ | refine O_gNe rfl ?_ | refine O_gS rfl (fun _ => ?_) (fun _ => ?_)) | ((with_reducible show VD _ _ _ _ _ _ _); first | refine D_step rfl ?_ | refine D_nil' ?_ | refine D_gT' rfl ?_ | refine D_gU' rfl ?_ | refine D_gF' rfl rfl ?_ | refine D_gS rfl (fun _ => ?_) (fun _ => ?_))
  rintro x e' st' ⟨rfl, v', rfl, hA⟩
  rcases hA with ⟨rfl, h0⟩ | ⟨t, g, rfl, hg, hlt⟩
  · have : bitsI n = [] := by simpa using h0
    rw [this]
    repeat' first | ((with_reducible show V _ _ _ _ _ _); first | refine V_O rfl ?_ | refine V_cT rfl rfl ?_ | refine V_cF rfl rfl ?_ | refine V_cEq rfl rfl ?_ | refine V_cNe rfl rfl ?_ | refine V_cB rfl rfl (fun _ => ?_) (fun _ => ?_) | refine V_fA rfl rfl ?_ | refine V_fAN rfl rfl ?_ | refine V_D rfl ?_) | ((with_reducible show VO _ _ _ _ _ _ _); first | refine O_step rfl ?_ | refine O_nil' ?_ | refine O_gT' rfl ?_ | refine O_gU' rfl ?_ | refine O_gF' rfl rfl ?_ | refine O_gEq rfl ?_ | refine O_gNe rfl ?_ | refine O_gS rfl (fun _ => ?_) (fun _ => ?_)) | ((with_reducible show VD _ _ _ _ _ _ _); first | refine D_step rfl ?_ | refine D_nil' ?_ | refine D_gT' rfl ?_ | refine D_gU' rfl ?_ | refine D_gF' rfl rfl ?_ | refine D_gS rfl (fun _ => ?_) (fun _ => ?_))
    exact .nil
  · repeat' first | ((with_reducible show V _ _ _ _ _ _); first | refine V_fin rfl rfl (view_osl0 hg (.inl rfl) rfl (pl_bc _)) (.sl _ _) | refine V_O rfl ?_ | refine V_cT rfl rfl ?_ | refine V_cF rfl rfl ?_ | refine V_cEq rfl rfl ?_ | refine V_cNe rfl rfl ?_ | refine V_cB rfl rfl (fun _ => ?_) (fun _ => ?_) | refine V_fA rfl rfl ?_ | refine V_fAN rfl rfl ?_ | refine V_D rfl ?_) | ((with_reducible show VO _ _ _ _ _ _ _); first | refine O_step rfl ?_ | refine O_nil' ?_ | refine O_gT' rfl ?_ | refine O_gU' rfl ?_ | refine O_gF' rfl rfl ?_ | refine O_gEq rfl ?_ | refine O_gNe rfl ?_ | refine O_gS rfl (fun _ => ?_) (fun _ => ?_)) | ((with_reducible show VD _ _ _ _ _ _ _); first | refine D_step rfl ?_ | refine D_nil' ?_ | refine D_gT' rfl ?_ | refine D_gU' rfl ?_ | refine D_gF' rfl rfl ?_ | refine D_gS rfl (fun _ => ?_) (fun _ => ?_))
theorem eqb_loop {p q : PV} {l : List Bool} (hp : LV bc p l) (hq : LV bc q l) (hl0 : l.length ≤ 9223372036854775800) : ∀ (rest pre : List Bool), l = pre ++ rest →
    V T (PE fun x e st' => x = .exit 0 ∧ st' = emptySt ∧ e = .nil) [.code (.loop lp_slices_Equal_bool_bool_0)] .normal (ecOf [(0, p), (1, q), (12, .int .i64 l.length), (13, .int .i64 pre.length)]) emptySt := by
  intro rest
  induction rest with
  | nil =>
    intro pre hl
    have hlt : decide ((pre.length : Int) < l.length) = false := decide_eq_false (by subst hl; simp)
    refine V_unroll ?_
    repeat' first | ((with_reducible show V _ _ _ _ _ _); first | refine V_cH hlt rfl rfl ?_ | refine V_out [] rfl trivial ⟨rfl, rfl, rfl⟩ | refine V_O rfl ?_ | refine V_cT rfl rfl ?_ | refine V_cF rfl rfl ?_ | refine V_cEq rfl rfl ?_ | refine V_cNe rfl rfl ?_ | refine V_cB rfl rfl (fun _ => ?_) (fun _ => ?_) | refine V_fA rfl rfl ?_ | refine V_fAN rfl rfl ?_ | refine V_D rfl ?_) | ((with_reducible show VO _ _ _ _ _ _ _); first | refine O_step rfl ?_ | refine O_nil' ?_ | refine O_gT' rfl ?_ | refine O_gU' rfl ?_ | refine O_gF' rfl rfl ?_ | refine O_gEq rfl ?_ | refine O_gNe rfl ?_ | refine O_gS rfl (fun _ => ?_) (fun _ => ?_)) | ((with_reducible show VD _ _ _ _ _ _ _); first | refine D_step rfl ?_ | refine D_nil' ?_ | refine D_gT' rfl ?_ | refine D_gU' rfl ?_ | refine D_gF' rfl rfl ?_ | refine D_gS rfl (fun _ => ?_) (fun _ => ?_))
  | cons c rest ih =>
    intro pre hl
    have hlt : decide ((pre.length : Int) < l.length) = true := decide_eq_true (by subst hl; simp; omega)
    have hpl : pre.length < l.length := by subst hl; simp
    have hat : l[(pre.length : Int).toNat]? = some c := by subst hl; simp
    have hw : IntKind.i64.wrap ((pre.length : Int) + 1) = ((pre ++ [c]).length : Int) := by rw [wrap_i64]; simp; omega
    have hi := ih (pre ++ [c]) (by rw [hl]; simp)
    refine V_unroll ?_
    cases c
    · repeat' first | ((with_reducible show V _ _ _ _ _ _); first | refine V_cHT hlt rfl rfl ?_ | refine V_re rfl hi ⟨rfl, rfl, rfl, some_int hw, trivial⟩ | refine V_O rfl ?_ | refine V_cT rfl rfl ?_ | refine V_cF rfl rfl ?_ | refine V_cEq rfl rfl ?_ | refine V_cNe rfl rfl ?_ | refine V_cB rfl rfl (fun _ => ?_) (fun _ => ?_) | refine V_fA rfl rfl ?_ | refine V_fAN rfl rfl ?_ | refine V_D rfl ?_) | ((with_reducible show VO _ _ _ _ _ _ _); first | refine O_step rfl ?_ | refine O_nil' ?_ | refine O_gT' rfl ?_ | refine O_gU' rfl ?_ | refine O_gF' rfl rfl ?_ | refine O_gEq rfl ?_ | refine O_gNe rfl ?_ | refine O_gS rfl (fun _ => ?_) (fun _ => ?_)) | ((with_reducible show VD _ _ _ _ _ _ _); first | refine D_idxL _ rfl hp rfl (by omega) hat rfl ?_ | refine D_idxL _ rfl hq rfl (by omega) hat rfl ?_ | refine D_step rfl ?_ | refine D_nil' ?_ | refine D_gT' rfl ?_ | refine D_gU' rfl ?_ | refine D_gF' rfl rfl ?_ | refine D_gS rfl (fun _ => ?_) (fun _ => ?_))
    · repeat' first | ((with_reducible show V _ _ _ _ _ _); first | refine V_cHT hlt rfl rfl ?_ | refine V_re rfl hi ⟨rfl, rfl, rfl, some_int hw, trivial⟩ | refine V_O rfl ?_ | refine V_cT rfl rfl ?_ | refine V_cF rfl rfl ?_ | refine V_cEq rfl rfl ?_ | refine V_cNe rfl rfl ?_ | refine V_cB rfl rfl (fun _ => ?_) (fun _ => ?_) | refine V_fA rfl rfl ?_ | refine V_fAN rfl rfl ?_ | refine V_D rfl ?_) | ((with_reducible show VO _ _ _ _ _ _ _); first | refine O_step rfl ?_ | refine O_nil' ?_ | refine O_gT' rfl ?_ | refine O_gU' rfl ?_ | refine O_gF' rfl rfl ?_ | refine O_gEq rfl ?_ | refine O_gNe rfl ?_ | refine O_gS rfl (fun _ => ?_) (fun _ => ?_)) | ((with_reducible show VD _ _ _ _ _ _ _); first | refine D_idxL _ rfl hp rfl (by omega) hat rfl ?_ | refine D_idxL _ rfl hq rfl (by omega) hat rfl ?_ | refine D_step rfl ?_ | refine D_nil' ?_ | refine D_gT' rfl ?_ | refine D_gU' rfl ?_ | refine D_gF' rfl rfl ?_ | refine D_gS rfl (fun _ => ?_) (fun _ => ?_))
theorem run_EqualB {p q : PV} {l : List Bool} (hp : LV bc p l) (hq : LV bc q l) (hl0 : l.length ≤ 9223372036854775800) : T.R (.call n_slices_Equal_bool_bool [p, q] (.bool true)) := by
  have hl := eqb_loop hp hq hl0 l [] rfl
  have hne : PV.bool (!decide ((l.length : Int) = l.length)) = PV.bool false := ndec_is rfl
  refine call_V rfl rfl ?_
  repeat' first | ((with_reducible show V _ _ _ _ _ _); first | refine V_cutTo rfl hl ⟨rfl, rfl, rfl, rfl, trivial⟩ ?_ | refine V_O rfl ?_ | refine V_cT rfl rfl ?_ | refine V_cF rfl rfl ?_ | refine V_cEq rfl rfl ?_ | refine V_cNe rfl rfl ?_ | refine V_cB rfl rfl (fun _ => ?_) (fun _ => ?_) | refine V_fA rfl rfl ?_ | refine V_fAN rfl rfl ?_ | refine V_D rfl ?_) | ((with_reducible show VO _ _ _ _ _ _ _); first | refine O_lenL rfl hp ?_ | refine O_lenL rfl hq ?_ | refine O_is hne rfl ?_ | refine O_step rfl ?_ | refine O_nil' ?_ | refine O_gT' rfl ?_ | refine O_gU' rfl ?_ | refine O_gF' rfl rfl ?_ | refine O_gEq rfl ?_ | refine O_gNe rfl ?_ | refine O_gS rfl (fun _ => ?_) (fun _ => ?_)) | ((with_reducible show VD _ _ _ _ _ _ _); first | refine D_step rfl ?_ | refine D_nil' ?_ | refine D_gT' rfl ?_ | refine D_gU' rfl ?_ | refine D_gF' rfl rfl ?_ | refine D_gS rfl (fun _ => ?_) (fun _ => ?_))
  rintro x e' st' ⟨rfl, rfl, rfl⟩
  repeat' first | ((with_reducible show V _ _ _ _ _ _); first | refine V_O rfl ?_ | refine V_cT rfl rfl ?_ | refine V_cF rfl rfl ?_ | refine V_cEq rfl rfl ?_ | refine V_cNe rfl rfl ?_ | refine V_cB rfl rfl (fun _ => ?_) (fun _ => ?_) | refine V_fA rfl rfl ?_ | refine V_fAN rfl rfl ?_ | refine V_D rfl ?_) | ((with_reducible show VO _ _ _ _ _ _ _); first | refine O_step rfl ?_ | refine O_nil' ?_ | refine O_gT' rfl ?_ | refine O_gU' rfl ?_ | refine O_gF' rfl rfl ?_ | refine O_gEq rfl ?_ | refine O_gNe rfl ?_ | refine O_gS rfl (fun _ => ?_) (fun _ => ?_)) | ((with_reducible show VD _ _ _ _ _ _ _); first | refine D_step rfl ?_ | refine D_nil' ?_ | refine D_gT' rfl ?_ | refine D_gU' rfl ?_ | refine D_gF' rfl rfl ?_ | refine D_gS rfl (fun _ => ?_) (fun _ => ?_))
  rfl
def wBegin : List UInt8 := [98, 101, 103, 105, 110]
def wCommit : List UInt8 := [99, 111, 109, 109, 105, 116]
def wRoll : List UInt8 := [114, 111, 108, 108, 98, 97, 99, 107]
def wQuery : List UInt8 := [113, 117, 101, 114, 121]
def wCount : List UInt8 := [99, 111, 117, 110, 116]
def wCrash : List UInt8 := [99, 114, 97, 115, 104]
def wordL (k : Int) : List UInt8 := if k = 1 then wBegin else if k = 2 then wCommit else if k = 3 then wRoll else if k = 4 then wQuery else if k = 5 then wCount else if k = 6 then wCrash else []
theorem six {k : Int} (h1 : ¬ k < 1) (h2 : ¬ 6 < k) : k = 1 ∨ k = 2 ∨ k = 3 ∨ k = 4 ∨ k = 5 ∨ k = 6 := by omega
theorem wordL_out {k : Int} (h : k < 1 ∨ 6 < k) : wordL k = [] := by
  unfold wordL
  rw [if_neg (by omega), if_neg (by omega), if_neg (by omega), if_neg (by omega), if_neg (by omega), if_neg (by omega)]
theorem run_words : T.R (.call n_strings_Split [.str [98, 101, 103, 105, 110, 32, 99, 111, 109, 109, 105, 116, 32, 114, 111, 108, 108, 98, 97, 99, 107, 32, 113, 117, 101, 114, 121, 32, 99, 111, 117, 110, 116, 32, 99, 114, 97, 115, 104], .str [32]] (.sl [[.str wBegin], [.str wCommit], [.str wRoll], [.str wQuery], [.str wCount], [.str wCrash]] false)) :=
  run_Split [98, 101, 103, 105, 110, 32, 99, 111, 109, 109, 105, 116, 32, 114, 111, 108, 108, 98, 97, 99, 107, 32, 113, 117, 101, 114, 121, 32, 99, 111, 117, 110, 116, 32, 99, 114, 97, 115, 104] 32 (by decide)
theorem run_word (k : Int) : T.R (.call n_script_word [.int .i64 k] (.str (wordL k))) := by
  have hs := run_words
  have plv : Pl (.sl [[.str wBegin], [.str wCommit], [.str wRoll], [.str wQuery], [.str wCount], [.str wCrash]] false) := .sl _ _ (fun cs h => by
    simp only [List.mem_cons, List.not_mem_nil, or_false] at h
    rcases h with rfl | rfl | rfl | rfl | rfl | rfl <;> exact pl_cons (.str _) pl_nil)
  by_cases h1 : k < 1
  · rw [wordL_out (.inl h1)]
    refine call_V rfl rfl ?_
    repeat' first | ((with_reducible show V _ _ _ _ _ _); first | refine V_O rfl ?_ | refine V_cT rfl rfl ?_ | refine V_cF rfl rfl ?_ | refine V_cEq rfl rfl ?_ | refine V_cNe rfl rfl ?_ | refine V_cB rfl rfl (fun _ => ?_) (fun _ => ?_) | refine V_fA rfl rfl ?_ | refine V_fAN rfl rfl ?_ | refine V_D rfl ?_) | ((with_reducible show VO _ _ _ _ _ _ _); first | refine O_cA rfl rfl hs ?_ | refine O_is (dec_is h1) rfl ?_ | refine O_step rfl ?_ | refine O_nil' ?_ | refine O_gT' rfl ?_ | refine O_gU' rfl ?_ | refine O_gF' rfl rfl ?_ | refine O_gEq rfl ?_ | refine O_gNe rfl ?_ | refine O_gS rfl (fun _ => ?_) (fun _ => ?_)) | ((with_reducible show VD _ _ _ _ _ _ _); first | refine D_step rfl ?_ | refine D_nil' ?_ | refine D_gT' rfl ?_ | refine D_gU' rfl ?_ | refine D_gF' rfl rfl ?_ | refine D_gS rfl (fun _ => ?_) (fun _ => ?_))
    rfl
  · by_cases h2 : 6 < k
    · rw [wordL_out (.inr h2)]
      refine call_V rfl rfl ?_
      repeat' first | ((with_reducible show V _ _ _ _ _ _); first | refine V_O rfl ?_ | refine V_cT rfl rfl ?_ | refine V_cF rfl rfl ?_ | refine V_cEq rfl rfl ?_ | refine V_cNe rfl rfl ?_ | refine V_cB rfl rfl (fun _ => ?_) (fun _ => ?_) | refine V_fA rfl rfl ?_ | refine V_fAN rfl rfl ?_ | refine V_D rfl ?_) | ((with_reducible show VO _ _ _ _ _ _ _); first | refine O_cA rfl rfl hs ?_ | refine O_is (dec_not h1) rfl ?_ | refine O_is (dec_is h2) rfl ?_ | refine O_step rfl ?_ | refine O_nil' ?_ | refine O_gT' rfl ?_ | refine O_gU' rfl ?_ | refine O_gF' rfl rfl ?_ | refine O_gEq rfl ?_ | refine O_gNe rfl ?_ | refine O_gS rfl (fun _ => ?_) (fun _ => ?_)) | ((with_reducible show VD _ _ _ _ _ _ _); first | refine D_step rfl ?_ | refine D_nil' ?_ | refine D_gT' rfl ?_ | refine D_gU' rfl ?_ | refine D_gF' rfl rfl ?_ | refine D_gS rfl (fun _ => ?_) (fun _ => ?_))
      rfl
    · rcases six h1 h2 with rfl | rfl | rfl | rfl | rfl | rfl
      all_goals refine call_V rfl rfl ?_
      all_goals repeat' first | ((with_reducible show V _ _ _ _ _ _); first | refine V_O rfl ?_ | refine V_cT rfl rfl ?_ | refine V_cF rfl rfl ?_ | refine V_cEq rfl rfl ?_ | refine V_cNe rfl rfl ?_ | refine V_cB rfl rfl (fun _ => ?_) (fun _ => ?_) | refine V_fA rfl rfl ?_ | refine V_fAN rfl rfl ?_ | refine V_D rfl ?_) | ((with_reducible show VO _ _ _ _ _ _ _); first | refine O_cA rfl rfl hs ?_ | refine O_step rfl ?_ | refine O_nil' ?_ | refine O_gT' rfl ?_ | refine O_gU' rfl ?_ | refine O_gF' rfl rfl ?_ | refine O_gEq rfl ?_ | refine O_gNe rfl ?_ | refine O_gS rfl (fun _ => ?_) (fun _ => ?_)) | ((with_reducible show VD _ _ _ _ _ _ _); first | refine D_step rfl ?_ | refine D_nil' ?_ | refine D_gT' rfl ?_ | refine D_gU' rfl ?_ | refine D_gF' rfl rfl ?_ | refine D_gS rfl (fun _ => ?_) (fun _ => ?_))
      all_goals rfl
end Go.Proofs.YtbeaalkfakjoiaaDoor
set_option linter.unusedVariables false
set_option linter.unusedSimpArgs false
namespace Go.Proofs.YtbeaalkfakjoiaaDoor
open Go Go.AM Go.RowKit
theorem cat_q {look : Nat → Option Tok} {ρ : EC} {x y : Opd} {a b : List UInt8} (hl : a.length + b.length ≤ 9223372036854775807) (hx : x.get ρ = some (.str a)) (hy : y.get ρ = some (.str b)) : stepQ look ρ (.bin .add x y) = some (.str (a ++ b)) := by
  simp only [stepQ, get2, hx, hy, binOp?, binStr]
  rw [if_neg (by omega)]
structure Cm where
  k : Int
  se : Int
  t : List UInt8
  to : Int
  ke : Int
def cells (c : Cm) : List PV := [.int .i64 c.k, .int .i64 c.se, .str c.t, .int .i64 c.to, .int .i64 c.ke]
def isAsk (k : Int) : Bool := decide (k = 4) || decide (k = 5)
def keepC (c : Cm) : Cm := if c.k = 6 then ⟨c.k, 0, [], c.to, c.ke⟩ else if isAsk c.k = true then ⟨c.k, c.se, c.t, 0, 0⟩ else ⟨c.k, c.se, [], 0, 0⟩
def lineC (c : Cm) : List UInt8 := if c.k = 6 then wordL c.k ++ [32] ++ Lib.itoa c.to ++ [32] ++ Lib.itoa c.ke else if isAsk c.k = true then wordL c.k ++ [32] ++ Lib.itoa c.se ++ [32] ++ c.t else wordL c.k ++ [32] ++ Lib.itoa c.se
theorem wordL_len (k : Int) : (wordL k).length ≤ 8 := by
  unfold wordL
  split; decide
  split; decide
  split; decide
  split; decide
  split; decide
  split; decide
  decide
theorem run_text {n : Int} (h : R64 n) : T.R (.call n_script_text [.int .i64 n] (.str (Lib.itoa n))) := by
  have ht := run_Text h
  refine call_V rfl rfl ?_
  repeat' first | ((with_reducible show V _ _ _ _ _ _); first | refine V_O rfl ?_ | refine V_cT rfl rfl ?_ | refine V_cF rfl rfl ?_ | refine V_cEq rfl rfl ?_ | refine V_cNe rfl rfl ?_ | refine V_cB rfl rfl (fun _ => ?_) (fun _ => ?_) | refine V_fA rfl rfl ?_ | refine V_fAN rfl rfl ?_ | refine V_D rfl ?_) | ((with_reducible show VO _ _ _ _ _ _ _); first | refine O_cA rfl rfl ht ?_ | refine O_step rfl ?_ | refine O_nil' ?_ | refine O_gT' rfl ?_ | refine O_gU' rfl ?_ | refine O_gF' rfl rfl ?_ | refine O_gEq rfl ?_ | refine O_gNe rfl ?_ | refine O_gS rfl (fun _ => ?_) (fun _ => ?_)) | ((with_reducible show VD _ _ _ _ _ _ _); first | refine D_step rfl ?_ | refine D_nil' ?_ | refine D_gT' rfl ?_ | refine D_gU' rfl ?_ | refine D_gF' rfl rfl ?_ | refine D_gS rfl (fun _ => ?_) (fun _ => ?_))
  rfl
theorem mem_cut (c : UInt8) (s : List UInt8) : decide (0 ≤ idxI c s) = decide (c ∈ s) := by
  unfold idxI
  cases h : cutB c s with
  | none => rw [decide_eq_false (cutB_none h)]; rfl
  | some p =>
    obtain ⟨x, y⟩ := p
    obtain ⟨h1, -⟩ := cutB_some h
    rw [decide_eq_true (by rw [h1]; simp : c ∈ s), decide_eq_true (by simp only; omega)]
theorem run_ContainsS (s : List UInt8) (c : UInt8) : T.R (.call n_strings_Contains [.str s, .str [c]] (.bool (decide (c ∈ s)))) := by
  have h := run_Index1S s c
  rw [← mem_cut]
  generalize idxI c s = r at h ⊢
  refine call_V rfl rfl ?_
  repeat' first | ((with_reducible show V _ _ _ _ _ _); first | refine V_O rfl ?_ | refine V_cT rfl rfl ?_ | refine V_cF rfl rfl ?_ | refine V_cEq rfl rfl ?_ | refine V_cNe rfl rfl ?_ | refine V_cB rfl rfl (fun _ => ?_) (fun _ => ?_) | refine V_fA rfl rfl ?_ | refine V_fAN rfl rfl ?_ | refine V_D rfl ?_) | ((with_reducible show VO _ _ _ _ _ _ _); first | refine O_cA rfl rfl h ?_ | refine O_step rfl ?_ | refine O_nil' ?_ | refine O_gT' rfl ?_ | refine O_gU' rfl ?_ | refine O_gF' rfl rfl ?_ | refine O_gEq rfl ?_ | refine O_gNe rfl ?_ | refine O_gS rfl (fun _ => ?_) (fun _ => ?_)) | ((with_reducible show VD _ _ _ _ _ _ _); first | refine D_step rfl ?_ | refine D_nil' ?_ | refine D_gT' rfl ?_ | refine D_gU' rfl ?_ | refine D_gF' rfl rfl ?_ | refine D_gS rfl (fun _ => ?_) (fun _ => ?_))
  rfl
theorem cutB_pre {c : UInt8} : ∀ (pre rest : List UInt8), c ∉ pre → cutB c (pre ++ c :: rest) = some (pre, rest)
  | [], rest, _ => by simp [cutB]
  | b :: l, rest, h => by
    have h1 : ¬ b = c := fun e => h (by simp [e])
    have h2 : c ∉ l := fun e => h (by simp [e])
    rw [List.cons_append, cutB, if_neg h1, cutB_pre l rest h2]
    rfl
theorem cutB_nil {c : UInt8} : ∀ (s : List UInt8), c ∉ s → cutB c s = none
  | [], _ => rfl
  | b :: l, h => by
    have h1 : ¬ b = c := fun e => h (by simp [e])
    have h2 : c ∉ l := fun e => h (by simp [e])
    rw [cutB, if_neg h1, cutB_nil l h2]
    rfl
def kst (c p q : List PV) : St := ⟨0, 3, [(0, .var c), (1, .var p), (2, .var q)]⟩
def z5 : List PV := [.int .i64 0, .int .i64 0, .str [], .int .i64 0, .int .i64 0]
def k5 (k se : Int) (t : List UInt8) (to ke : Int) : List PV := [.int .i64 k, .int .i64 se, .str t, .int .i64 to, .int .i64 ke]
set_option maxHeartbeats 4000000 in
theorem run_keep {k se to ke : Int} {t : List UInt8} (h1 : R64 se) (h2 : R64 to) (h3 : R64 ke) (ht : t.length ≤ 140737488355328) :
    T.R (.call n_script_keep [.agg (k5 k se t to ke)] (.tuple [.agg (cells (keepC ⟨k, se, t, to, ke⟩)), .str (lineC ⟨k, se, t, to, ke⟩)])) := by
  have hw := run_word k
  have t1 := run_text h1
  have t2 := run_text h2
  have t3 := run_Text h3
  have l0 := wordL_len k
  have l1 := itoa_len h1
  have l2 := itoa_len h2
  have l3 := itoa_len h3
  generalize hW : wordL k = W at *
  generalize hS1 : Lib.itoa se = S1 at *
  generalize hS2 : Lib.itoa to = S2 at *
  generalize hS3 : Lib.itoa ke = S3 at *
  have c0 : W.length + ([32] : List UInt8).length ≤ 9223372036854775807 := by simp; omega
  by_cases h6 : k = 6
  · subst h6
    have hk : keepC ⟨6, se, t, to, ke⟩ = ⟨6, 0, [], to, ke⟩ := rfl
    have hl : lineC ⟨6, se, t, to, ke⟩ = W ++ [32] ++ S2 ++ [32] ++ S3 := by unfold lineC; simp only [if_true, hW, hS2, hS3]
    have c1 : (W ++ [32]).length + S2.length ≤ 9223372036854775807 := by simp; omega
    have c2 : (W ++ [32] ++ S2).length + ([32] : List UInt8).length ≤ 9223372036854775807 := by simp; omega
    have c3 : (W ++ [32] ++ S2 ++ [32]).length + S3.length ≤ 9223372036854775807 := by simp; omega
    rw [hk, hl]
    refine call_V rfl rfl ?_
    repeat' first | ((with_reducible show V _ _ _ _ _ _); first | refine V_MI 5 7 (St.two (kst (k5 6 se t to ke) z5 (k5 6 0 [] 0 0)) 2 (k5 6 0 [] 0 0) 3 (.int .i64 to) 4 (.int .i64 ke)) rfl rfl ?_ | refine V_M 11 (kst (k5 6 se t to ke) (k5 6 0 [] to ke) (k5 6 0 [] to ke)) rfl ?_ | refine V_O rfl ?_ | refine V_cT rfl rfl ?_ | refine V_cF rfl rfl ?_ | refine V_cEq rfl rfl ?_ | refine V_cNe rfl rfl ?_ | refine V_cB rfl rfl (fun _ => ?_) (fun _ => ?_) | refine V_fA rfl rfl ?_ | refine V_fAN rfl rfl ?_ | refine V_D rfl ?_) | ((with_reducible show VO _ _ _ _ _ _ _); first | refine O_cA rfl rfl hw ?_ | refine O_cat c0 rfl rfl ?_ | refine O_step rfl ?_ | refine O_stepL rfl ?_ | refine O_nil' ?_ | refine O_gT' rfl ?_ | refine O_gU' rfl ?_ | refine O_gF' rfl rfl ?_ | refine O_gEq rfl ?_ | refine O_gNe rfl ?_ | refine O_gS rfl (fun _ => ?_) (fun _ => ?_)) | ((with_reducible show VD _ _ _ _ _ _ _); first | refine D_step rfl ?_ | refine D_nil' ?_ | refine D_gT' rfl ?_ | refine D_gU' rfl ?_ | refine D_gF' rfl rfl ?_ | refine D_gS rfl (fun _ => ?_) (fun _ => ?_)) | ((with_reducible show VM _ _ _ _ _ _ _ _ _ _ _); first | refine M_call rfl (.inl rfl) rfl rfl (viewL_pl (by (repeat' (first | exact Pl.int _ _ | exact Pl.bool _ | exact Pl.str _ | exact Pl.nilSl | exact pl_nil | refine pl_cons ?_ ?_ | refine Pl.tuple _ ?_ | refine Pl.agg _ ?_ | refine Pl.func _ _ ?_ | assumption | refine Pl.iptr _ _ ?_ | exact pll_nil | refine pll_cons ?_ ?_ | refine Pl.sl _ _ ?_)); first | done | fail)) (viewL_pl (by (repeat' (first | exact Pl.int _ _ | exact Pl.bool _ | exact Pl.str _ | exact Pl.nilSl | exact pl_nil | refine pl_cons ?_ ?_ | refine Pl.tuple _ ?_ | refine Pl.agg _ ?_ | refine Pl.func _ _ ?_ | assumption | refine Pl.iptr _ _ ?_ | exact pll_nil | refine pll_cons ?_ ?_ | refine Pl.sl _ _ ?_)); first | done | fail)) t2 ?_ | refine M_call rfl (.inl rfl) rfl rfl (viewL_pl (by (repeat' (first | exact Pl.int _ _ | exact Pl.bool _ | exact Pl.str _ | exact Pl.nilSl | exact pl_nil | refine pl_cons ?_ ?_ | refine Pl.tuple _ ?_ | refine Pl.agg _ ?_ | refine Pl.func _ _ ?_ | assumption | refine Pl.iptr _ _ ?_ | exact pll_nil | refine pll_cons ?_ ?_ | refine Pl.sl _ _ ?_)); first | done | fail)) (viewL_pl (by (repeat' (first | exact Pl.int _ _ | exact Pl.bool _ | exact Pl.str _ | exact Pl.nilSl | exact pl_nil | refine pl_cons ?_ ?_ | refine Pl.tuple _ ?_ | refine Pl.agg _ ?_ | refine Pl.func _ _ ?_ | assumption | refine Pl.iptr _ _ ?_ | exact pll_nil | refine pll_cons ?_ ?_ | refine Pl.sl _ _ ?_)); first | done | fail)) t3 ?_ | refine M_step rfl (.inl rfl) (cat_q c1 rfl rfl) (cat_q c1 rfl rfl) ?_ | refine M_step rfl (.inl rfl) (cat_q c2 rfl rfl) (cat_q c2 rfl rfl) ?_ | refine M_step rfl (.inl rfl) (cat_q c3 rfl rfl) (cat_q c3 rfl rfl) ?_ | refine M_loud rfl rfl ?_ | refine M_step rfl (.inl rfl) rfl rfl ?_ | refine M_step rfl (.inr rfl) rfl rfl ?_ | refine M_nil ?_) | refine MI_st1 rfl rfl rfl rfl rfl rfl rfl rfl ?_ | refine MI_st2 rfl rfl rfl rfl rfl rfl rfl ?_ | refine MI_step rfl rfl rfl rfl rfl rfl ?_ | refine MI_nil ?_
    rfl
  · by_cases ha : isAsk k = true
    · have hk : keepC ⟨k, se, t, to, ke⟩ = ⟨k, se, t, 0, 0⟩ := by unfold keepC; rw [if_neg h6, if_pos ha]
      have hl : lineC ⟨k, se, t, to, ke⟩ = W ++ [32] ++ S1 ++ [32] ++ t := by unfold lineC; rw [if_neg h6, if_pos ha]; simp only [hW, hS1]
      have c1 : (W ++ [32]).length + S1.length ≤ 9223372036854775807 := by simp; omega
      have c2 : (W ++ [32] ++ S1).length + ([32] : List UInt8).length ≤ 9223372036854775807 := by simp; omega
      have c3 : (W ++ [32] ++ S1 ++ [32]).length + t.length ≤ 9223372036854775807 := by simp; omega
      rw [hk, hl]
      have h45 : k = 4 ∨ k = 5 := by unfold isAsk at ha; simpa using ha
      rcases h45 with rfl | rfl
      · refine call_V rfl rfl ?_
        repeat' first | ((with_reducible show V _ _ _ _ _ _); first | refine V_MI 5 7 (St.two (kst (k5 4 se t to ke) z5 (k5 4 0 [] 0 0)) 2 (k5 4 0 [] 0 0) 1 (.int .i64 se) 2 (.str t)) rfl rfl ?_ | refine V_M 10 (kst (k5 4 se t to ke) (k5 4 se t 0 0) (k5 4 se t 0 0)) rfl ?_ | refine V_O rfl ?_ | refine V_cT rfl rfl ?_ | refine V_cF rfl rfl ?_ | refine V_cEq rfl rfl ?_ | refine V_cNe rfl rfl ?_ | refine V_cB rfl rfl (fun _ => ?_) (fun _ => ?_) | refine V_fA rfl rfl ?_ | refine V_fAN rfl rfl ?_ | refine V_D rfl ?_) | ((with_reducible show VO _ _ _ _ _ _ _); first | refine O_cA rfl rfl hw ?_ | refine O_cat c0 rfl rfl ?_ | refine O_step rfl ?_ | refine O_stepL rfl ?_ | refine O_nil' ?_ | refine O_gT' rfl ?_ | refine O_gU' rfl ?_ | refine O_gF' rfl rfl ?_ | refine O_gEq rfl ?_ | refine O_gNe rfl ?_ | refine O_gS rfl (fun _ => ?_) (fun _ => ?_)) | ((with_reducible show VD _ _ _ _ _ _ _); first | refine D_step rfl ?_ | refine D_nil' ?_ | refine D_gT' rfl ?_ | refine D_gU' rfl ?_ | refine D_gF' rfl rfl ?_ | refine D_gS rfl (fun _ => ?_) (fun _ => ?_)) | ((with_reducible show VM _ _ _ _ _ _ _ _ _ _ _); first | refine M_call rfl (.inl rfl) rfl rfl (viewL_pl (by (repeat' (first | exact Pl.int _ _ | exact Pl.bool _ | exact Pl.str _ | exact Pl.nilSl | exact pl_nil | refine pl_cons ?_ ?_ | refine Pl.tuple _ ?_ | refine Pl.agg _ ?_ | refine Pl.func _ _ ?_ | assumption | refine Pl.iptr _ _ ?_ | exact pll_nil | refine pll_cons ?_ ?_ | refine Pl.sl _ _ ?_)); first | done | fail)) (viewL_pl (by (repeat' (first | exact Pl.int _ _ | exact Pl.bool _ | exact Pl.str _ | exact Pl.nilSl | exact pl_nil | refine pl_cons ?_ ?_ | refine Pl.tuple _ ?_ | refine Pl.agg _ ?_ | refine Pl.func _ _ ?_ | assumption | refine Pl.iptr _ _ ?_ | exact pll_nil | refine pll_cons ?_ ?_ | refine Pl.sl _ _ ?_)); first | done | fail)) t1 ?_ | refine M_step rfl (.inl rfl) (cat_q c1 rfl rfl) (cat_q c1 rfl rfl) ?_ | refine M_step rfl (.inl rfl) (cat_q c2 rfl rfl) (cat_q c2 rfl rfl) ?_ | refine M_step rfl (.inl rfl) (cat_q c3 rfl rfl) (cat_q c3 rfl rfl) ?_ | refine M_loud rfl rfl ?_ | refine M_step rfl (.inl rfl) rfl rfl ?_ | refine M_step rfl (.inr rfl) rfl rfl ?_ | refine M_nil ?_) | refine MI_st1 rfl rfl rfl rfl rfl rfl rfl rfl ?_ | refine MI_st2 rfl rfl rfl rfl rfl rfl rfl ?_ | refine MI_step rfl rfl rfl rfl rfl rfl ?_ | refine MI_nil ?_
        rfl
      · refine call_V rfl rfl ?_
        repeat' first | ((with_reducible show V _ _ _ _ _ _); first | refine V_MI 5 7 (St.two (kst (k5 5 se t to ke) z5 (k5 5 0 [] 0 0)) 2 (k5 5 0 [] 0 0) 1 (.int .i64 se) 2 (.str t)) rfl rfl ?_ | refine V_M 10 (kst (k5 5 se t to ke) (k5 5 se t 0 0) (k5 5 se t 0 0)) rfl ?_ | refine V_O rfl ?_ | refine V_cT rfl rfl ?_ | refine V_cF rfl rfl ?_ | refine V_cEq rfl rfl ?_ | refine V_cNe rfl rfl ?_ | refine V_cB rfl rfl (fun _ => ?_) (fun _ => ?_) | refine V_fA rfl rfl ?_ | refine V_fAN rfl rfl ?_ | refine V_D rfl ?_) | ((with_reducible show VO _ _ _ _ _ _ _); first | refine O_cA rfl rfl hw ?_ | refine O_cat c0 rfl rfl ?_ | refine O_step rfl ?_ | refine O_stepL rfl ?_ | refine O_nil' ?_ | refine O_gT' rfl ?_ | refine O_gU' rfl ?_ | refine O_gF' rfl rfl ?_ | refine O_gEq rfl ?_ | refine O_gNe rfl ?_ | refine O_gS rfl (fun _ => ?_) (fun _ => ?_)) | ((with_reducible show VD _ _ _ _ _ _ _); first | refine D_step rfl ?_ | refine D_nil' ?_ | refine D_gT' rfl ?_ | refine D_gU' rfl ?_ | refine D_gF' rfl rfl ?_ | refine D_gS rfl (fun _ => ?_) (fun _ => ?_)) | ((with_reducible show VM _ _ _ _ _ _ _ _ _ _ _); first | refine M_call rfl (.inl rfl) rfl rfl (viewL_pl (by (repeat' (first | exact Pl.int _ _ | exact Pl.bool _ | exact Pl.str _ | exact Pl.nilSl | exact pl_nil | refine pl_cons ?_ ?_ | refine Pl.tuple _ ?_ | refine Pl.agg _ ?_ | refine Pl.func _ _ ?_ | assumption | refine Pl.iptr _ _ ?_ | exact pll_nil | refine pll_cons ?_ ?_ | refine Pl.sl _ _ ?_)); first | done | fail)) (viewL_pl (by (repeat' (first | exact Pl.int _ _ | exact Pl.bool _ | exact Pl.str _ | exact Pl.nilSl | exact pl_nil | refine pl_cons ?_ ?_ | refine Pl.tuple _ ?_ | refine Pl.agg _ ?_ | refine Pl.func _ _ ?_ | assumption | refine Pl.iptr _ _ ?_ | exact pll_nil | refine pll_cons ?_ ?_ | refine Pl.sl _ _ ?_)); first | done | fail)) t1 ?_ | refine M_step rfl (.inl rfl) (cat_q c1 rfl rfl) (cat_q c1 rfl rfl) ?_ | refine M_step rfl (.inl rfl) (cat_q c2 rfl rfl) (cat_q c2 rfl rfl) ?_ | refine M_step rfl (.inl rfl) (cat_q c3 rfl rfl) (cat_q c3 rfl rfl) ?_ | refine M_loud rfl rfl ?_ | refine M_step rfl (.inl rfl) rfl rfl ?_ | refine M_step rfl (.inr rfl) rfl rfl ?_ | refine M_nil ?_) | refine MI_st1 rfl rfl rfl rfl rfl rfl rfl rfl ?_ | refine MI_st2 rfl rfl rfl rfl rfl rfl rfl ?_ | refine MI_step rfl rfl rfl rfl rfl rfl ?_ | refine MI_nil ?_
        rfl
    · have hk : keepC ⟨k, se, t, to, ke⟩ = ⟨k, se, [], 0, 0⟩ := by unfold keepC; rw [if_neg h6, if_neg ha]
      have hl : lineC ⟨k, se, t, to, ke⟩ = W ++ [32] ++ S1 := by unfold lineC; rw [if_neg h6, if_neg ha]; simp only [hW, hS1]
      have c1 : (W ++ [32]).length + S1.length ≤ 9223372036854775807 := by simp; omega
      rw [hk, hl]
      have h4 : ¬ k = 4 := fun e => ha (by rw [e]; rfl)
      have h5 : ¬ k = 5 := fun e => ha (by rw [e]; rfl)
      refine call_V rfl rfl ?_
      repeat' first | ((with_reducible show V _ _ _ _ _ _); first | refine V_M 6 (kst (k5 k se t to ke) (k5 k se [] 0 0) (k5 k se [] 0 0)) rfl ?_ | refine V_O rfl ?_ | refine V_cT rfl rfl ?_ | refine V_cF rfl rfl ?_ | refine V_cEq rfl rfl ?_ | refine V_cNe rfl rfl ?_ | refine V_cB rfl rfl (fun _ => ?_) (fun _ => ?_) | refine V_fA rfl rfl ?_ | refine V_fAN rfl rfl ?_ | refine V_D rfl ?_) | ((with_reducible show VO _ _ _ _ _ _ _); first | refine O_is (dec_not h6) rfl ?_ | refine O_is (dec_not h4) rfl ?_ | refine O_is (dec_not h5) rfl ?_ | refine O_cA rfl rfl hw ?_ | refine O_cat c0 rfl rfl ?_ | refine O_step rfl ?_ | refine O_stepL rfl ?_ | refine O_nil' ?_ | refine O_gT' rfl ?_ | refine O_gU' rfl ?_ | refine O_gF' rfl rfl ?_ | refine O_gEq rfl ?_ | refine O_gNe rfl ?_ | refine O_gS rfl (fun _ => ?_) (fun _ => ?_)) | ((with_reducible show VD _ _ _ _ _ _ _); first | refine D_step rfl ?_ | refine D_nil' ?_ | refine D_gT' rfl ?_ | refine D_gU' rfl ?_ | refine D_gF' rfl rfl ?_ | refine D_gS rfl (fun _ => ?_) (fun _ => ?_)) | ((with_reducible show VM _ _ _ _ _ _ _ _ _ _ _); first | refine M_call rfl (.inl rfl) rfl rfl (viewL_pl (by (repeat' (first | exact Pl.int _ _ | exact Pl.bool _ | exact Pl.str _ | exact Pl.nilSl | exact pl_nil | refine pl_cons ?_ ?_ | refine Pl.tuple _ ?_ | refine Pl.agg _ ?_ | refine Pl.func _ _ ?_ | assumption | refine Pl.iptr _ _ ?_ | exact pll_nil | refine pll_cons ?_ ?_ | refine Pl.sl _ _ ?_)); first | done | fail)) (viewL_pl (by (repeat' (first | exact Pl.int _ _ | exact Pl.bool _ | exact Pl.str _ | exact Pl.nilSl | exact pl_nil | refine pl_cons ?_ ?_ | refine Pl.tuple _ ?_ | refine Pl.agg _ ?_ | refine Pl.func _ _ ?_ | assumption | refine Pl.iptr _ _ ?_ | exact pll_nil | refine pll_cons ?_ ?_ | refine Pl.sl _ _ ?_)); first | done | fail)) t1 ?_ | refine M_step rfl (.inl rfl) (cat_q c1 rfl rfl) (cat_q c1 rfl rfl) ?_ | refine M_loud rfl rfl ?_ | refine M_step rfl (.inl rfl) rfl rfl ?_ | refine M_step rfl (.inr rfl) rfl rfl ?_ | refine M_nil ?_)
      rfl
end Go.Proofs.YtbeaalkfakjoiaaDoor
set_option linter.unusedVariables false
set_option linter.unusedSimpArgs false
namespace Go.Proofs.YtbeaalkfakjoiaaDoor
open Go Go.AM Go.RowKit
def eqC (a b : Cm) : Bool := decide (a.k = b.k) && (decide (a.se = b.se) && (decide (a.t = b.t) && (decide (a.to = b.to) && (decide (a.ke = b.ke) && true))))
theorem eqC_iff {a b : Cm} : eqC a b = true ↔ a = b := by
  obtain ⟨a1, a2, a3, a4, a5⟩ := a
  obtain ⟨b1, b2, b3, b4, b5⟩ := b
  simp [eqC]
def lineR (c : Cm) : List UInt8 × Int := if wordL c.k = [] then ([], 250) else if eqC (keepC c) c = false then ([], 250) else if 10 ∈ c.t then ([], 250) else if c.ke < 0 then ([], 250) else if 4096 < c.t.length then ([], 3) else (lineC c, 0)
def twoS (p : List UInt8 × Int) : PV := .tuple [.str p.1, .int .i64 p.2]
theorem pl_k5 (k se : Int) (t : List UInt8) (to ke : Int) : Pl (.agg (k5 k se t to ke)) := .agg _ (pl_cons (.int _ _) (pl_cons (.int _ _) (pl_cons (.str _) (pl_cons (.int _ _) (pl_cons (.int _ _) pl_nil)))))
theorem pl_cells (c : Cm) : Pl (.agg (cells c)) := pl_k5 _ _ _ _ _
set_option maxHeartbeats 4000000 in
theorem run_Line {k se to ke : Int} {t : List UInt8} (h1 : R64 se) (h2 : R64 to) (h3 : R64 ke) (ht : t.length ≤ 140737488355328) :
    T.R (.call n_script_Line [.agg (k5 k se t to ke)] (twoS (lineR ⟨k, se, t, to, ke⟩))) := by
  have hk := run_keep (k := k) h1 h2 h3 ht
  have hw := run_word k
  have hct := run_ContainsS t 10
  have plk := pl_k5 k se t to ke
  unfold lineR
  simp only
  generalize keepC ⟨k, se, t, to, ke⟩ = K at *
  generalize lineC ⟨k, se, t, to, ke⟩ = L at *
  generalize wordL k = W at *
  have plK := pl_cells K
  by_cases g1 : W = []
  · rw [if_pos g1]
    refine call_V rfl rfl ?_
    repeat' first | ((with_reducible show V _ _ _ _ _ _); first | refine V_O rfl ?_ | refine V_cT rfl rfl ?_ | refine V_cF rfl rfl ?_ | refine V_cEq rfl rfl ?_ | refine V_cNe rfl rfl ?_ | refine V_cB rfl rfl (fun _ => ?_) (fun _ => ?_) | refine V_fA rfl rfl ?_ | refine V_fAN rfl rfl ?_ | refine V_D rfl ?_) | ((with_reducible show VO _ _ _ _ _ _ _); first | refine O_cA rfl rfl hk ?_ | refine O_cA rfl rfl hw ?_ | refine O_is (dec_is g1) rfl ?_ | refine O_step rfl ?_ | refine O_stepL rfl ?_ | refine O_nil' ?_ | refine O_gT' rfl ?_ | refine O_gU' rfl ?_ | refine O_gF' rfl rfl ?_ | refine O_gEq rfl ?_ | refine O_gNe rfl ?_ | refine O_gS rfl (fun _ => ?_) (fun _ => ?_)) | ((with_reducible show VD _ _ _ _ _ _ _); first | refine D_step rfl ?_ | refine D_nil' ?_ | refine D_gT' rfl ?_ | refine D_gU' rfl ?_ | refine D_gF' rfl rfl ?_ | refine D_gS rfl (fun _ => ?_) (fun _ => ?_))
    rfl
  · rw [if_neg g1]
    cases g2 : eqC K ⟨k, se, t, to, ke⟩ with
    | false =>
      rw [if_pos rfl]
      have e2 : PV.bool (!eqC K ⟨k, se, t, to, ke⟩) = PV.bool true := by rw [g2]; rfl
      refine call_V rfl rfl ?_
      repeat' first | ((with_reducible show V _ _ _ _ _ _); first | refine V_O rfl ?_ | refine V_cT rfl rfl ?_ | refine V_cF rfl rfl ?_ | refine V_cEq rfl rfl ?_ | refine V_cNe rfl rfl ?_ | refine V_cB rfl rfl (fun _ => ?_) (fun _ => ?_) | refine V_fA rfl rfl ?_ | refine V_fAN rfl rfl ?_ | refine V_D rfl ?_) | ((with_reducible show VO _ _ _ _ _ _ _); first | refine O_cA rfl rfl hk ?_ | refine O_cA rfl rfl hw ?_ | refine O_is (dec_not g1) rfl ?_ | refine O_is e2 rfl ?_ | refine O_step rfl ?_ | refine O_stepL rfl ?_ | refine O_nil' ?_ | refine O_gT' rfl ?_ | refine O_gU' rfl ?_ | refine O_gF' rfl rfl ?_ | refine O_gEq rfl ?_ | refine O_gNe rfl ?_ | refine O_gS rfl (fun _ => ?_) (fun _ => ?_)) | ((with_reducible show VD _ _ _ _ _ _ _); first | refine D_step rfl ?_ | refine D_nil' ?_ | refine D_gT' rfl ?_ | refine D_gU' rfl ?_ | refine D_gF' rfl rfl ?_ | refine D_gS rfl (fun _ => ?_) (fun _ => ?_))
      rfl
    | true =>
      rw [if_neg (by simp)]
      have e2 : PV.bool (!eqC K ⟨k, se, t, to, ke⟩) = PV.bool false := by rw [g2]; rfl
      by_cases g3 : 10 ∈ t
      · rw [if_pos g3]
        rw [decide_eq_true g3] at hct
        refine call_V rfl rfl ?_
        repeat' first | ((with_reducible show V _ _ _ _ _ _); first | refine V_O rfl ?_ | refine V_cT rfl rfl ?_ | refine V_cF rfl rfl ?_ | refine V_cEq rfl rfl ?_ | refine V_cNe rfl rfl ?_ | refine V_cB rfl rfl (fun _ => ?_) (fun _ => ?_) | refine V_fA rfl rfl ?_ | refine V_fAN rfl rfl ?_ | refine V_D rfl ?_) | ((with_reducible show VO _ _ _ _ _ _ _); first | refine O_cA rfl rfl hk ?_ | refine O_cA rfl rfl hw ?_ | refine O_is (dec_not g1) rfl ?_ | refine O_is e2 rfl ?_ | refine O_cA rfl rfl hct ?_ | refine O_step rfl ?_ | refine O_stepL rfl ?_ | refine O_nil' ?_ | refine O_gT' rfl ?_ | refine O_gU' rfl ?_ | refine O_gF' rfl rfl ?_ | refine O_gEq rfl ?_ | refine O_gNe rfl ?_ | refine O_gS rfl (fun _ => ?_) (fun _ => ?_)) | ((with_reducible show VD _ _ _ _ _ _ _); first | refine D_step rfl ?_ | refine D_nil' ?_ | refine D_gT' rfl ?_ | refine D_gU' rfl ?_ | refine D_gF' rfl rfl ?_ | refine D_gS rfl (fun _ => ?_) (fun _ => ?_))
        rfl
      · rw [if_neg g3]
        rw [decide_eq_false g3] at hct
        by_cases g4 : ke < 0
        · rw [if_pos g4]
          refine call_V rfl rfl ?_
          repeat' first | ((with_reducible show V _ _ _ _ _ _); first | refine V_O rfl ?_ | refine V_cT rfl rfl ?_ | refine V_cF rfl rfl ?_ | refine V_cEq rfl rfl ?_ | refine V_cNe rfl rfl ?_ | refine V_cB rfl rfl (fun _ => ?_) (fun _ => ?_) | refine V_fA rfl rfl ?_ | refine V_fAN rfl rfl ?_ | refine V_D rfl ?_) | ((with_reducible show VO _ _ _ _ _ _ _); first | refine O_cA rfl rfl hk ?_ | refine O_cA rfl rfl hw ?_ | refine O_is (dec_not g1) rfl ?_ | refine O_is e2 rfl ?_ | refine O_cA rfl rfl hct ?_ | refine O_is (dec_is g4) rfl ?_ | refine O_step rfl ?_ | refine O_stepL rfl ?_ | refine O_nil' ?_ | refine O_gT' rfl ?_ | refine O_gU' rfl ?_ | refine O_gF' rfl rfl ?_ | refine O_gEq rfl ?_ | refine O_gNe rfl ?_ | refine O_gS rfl (fun _ => ?_) (fun _ => ?_)) | ((with_reducible show VD _ _ _ _ _ _ _); first | refine D_step rfl ?_ | refine D_nil' ?_ | refine D_gT' rfl ?_ | refine D_gU' rfl ?_ | refine D_gF' rfl rfl ?_ | refine D_gS rfl (fun _ => ?_) (fun _ => ?_))
          rfl
        · rw [if_neg g4]
          by_cases g5 : 4096 < t.length
          · rw [if_pos g5]
            have g5' : (4096 : Int) < t.length := by omega
            refine call_V rfl rfl ?_
            repeat' first | ((with_reducible show V _ _ _ _ _ _); first | refine V_O rfl ?_ | refine V_cT rfl rfl ?_ | refine V_cF rfl rfl ?_ | refine V_cEq rfl rfl ?_ | refine V_cNe rfl rfl ?_ | refine V_cB rfl rfl (fun _ => ?_) (fun _ => ?_) | refine V_fA rfl rfl ?_ | refine V_fAN rfl rfl ?_ | refine V_D rfl ?_) | ((with_reducible show VO _ _ _ _ _ _ _); first | refine O_cA rfl rfl hk ?_ | refine O_cA rfl rfl hw ?_ | refine O_is (dec_not g1) rfl ?_ | refine O_is e2 rfl ?_ | refine O_cA rfl rfl hct ?_ | refine O_is (dec_not g4) rfl ?_ | refine O_is (dec_is g5') rfl ?_ | refine O_step rfl ?_ | refine O_stepL rfl ?_ | refine O_nil' ?_ | refine O_gT' rfl ?_ | refine O_gU' rfl ?_ | refine O_gF' rfl rfl ?_ | refine O_gEq rfl ?_ | refine O_gNe rfl ?_ | refine O_gS rfl (fun _ => ?_) (fun _ => ?_)) | ((with_reducible show VD _ _ _ _ _ _ _); first | refine D_step rfl ?_ | refine D_nil' ?_ | refine D_gT' rfl ?_ | refine D_gU' rfl ?_ | refine D_gF' rfl rfl ?_ | refine D_gS rfl (fun _ => ?_) (fun _ => ?_))
            rfl
          · rw [if_neg g5]
            have g5' : ¬ (4096 : Int) < t.length := by omega
            refine call_V rfl rfl ?_
            repeat' first | ((with_reducible show V _ _ _ _ _ _); first | refine V_O rfl ?_ | refine V_cT rfl rfl ?_ | refine V_cF rfl rfl ?_ | refine V_cEq rfl rfl ?_ | refine V_cNe rfl rfl ?_ | refine V_cB rfl rfl (fun _ => ?_) (fun _ => ?_) | refine V_fA rfl rfl ?_ | refine V_fAN rfl rfl ?_ | refine V_D rfl ?_) | ((with_reducible show VO _ _ _ _ _ _ _); first | refine O_cA rfl rfl hk ?_ | refine O_cA rfl rfl hw ?_ | refine O_is (dec_not g1) rfl ?_ | refine O_is e2 rfl ?_ | refine O_cA rfl rfl hct ?_ | refine O_is (dec_not g4) rfl ?_ | refine O_is (dec_not g5') rfl ?_ | refine O_step rfl ?_ | refine O_stepL rfl ?_ | refine O_nil' ?_ | refine O_gT' rfl ?_ | refine O_gU' rfl ?_ | refine O_gF' rfl rfl ?_ | refine O_gEq rfl ?_ | refine O_gNe rfl ?_ | refine O_gS rfl (fun _ => ?_) (fun _ => ?_)) | ((with_reducible show VD _ _ _ _ _ _ _); first | refine D_step rfl ?_ | refine D_nil' ?_ | refine D_gT' rfl ?_ | refine D_gU' rfl ?_ | refine D_gF' rfl rfl ?_ | refine D_gS rfl (fun _ => ?_) (fun _ => ?_))
            rfl
end Go.Proofs.YtbeaalkfakjoiaaDoor

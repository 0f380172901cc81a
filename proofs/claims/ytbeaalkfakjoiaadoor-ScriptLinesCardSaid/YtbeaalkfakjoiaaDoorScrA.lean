/- script.word, text, Keep; rambleref25.word, asks, lineEnd, cut, number, Keep; slices.Equal of truths. -/
import Derived.Test.YtbeaalkfakjoiaaDoorTextR
import Derived.Test.YtbeaalkfakjoiaaDoorStrA
import Derived.Test.YtbeaalkfakjoiaaDoorAmZ
set_option linter.unusedVariables false
set_option linter.unusedSimpArgs false
namespace Go.Proofs.YtbeaalkfakjoiaaDoor
open Go Go.AM Go.RowKit
def bc (b : Bool) : List PV := [.bool b]
def bitsF : Nat → Nat → List Bool
  | 0, _ => []
  | k + 1, u => if u = 0 then [] else (decide (u % 2 = 1)) :: bitsF k (u / 2)
theorem bitsF_len : ∀ (k u : Nat), (bitsF k u).length ≤ k
  | 0, _ => by simp [bitsF]
  | k + 1, u => by
    rw [bitsF]
    split
    · simp
    · simpa using bitsF_len k (u / 2)
theorem and1 (u : Nat) (hu : u < 9223372036854775808) : IntKind.i64.wrap ((BitVec.ofInt 64 (u : Int) &&& BitVec.ofInt 64 (1 : Int)).toNat : Int) = ((u % 2 : Nat) : Int) := by
  have e1 : BitVec.ofInt 64 (1 : Int) = BitVec.ofNat 64 1 := rfl
  rw [e1, BitVec.toNat_and, BitVec.ofInt_natCast, BitVec.toNat_ofNat, BitVec.toNat_ofNat, Nat.mod_eq_of_lt (by omega), show 1 % 2 ^ 64 = 1 from rfl, Nat.and_one_is_mod, wrap_i64]
  omega
theorem keep_loop : ∀ (k u : Nat) (acc : List Bool) (st : St) (v : PV), u < 2 ^ k → k ≤ 63 → acc.length + k ≤ 1000 → AccT 1 st v (acc.map bc) →
    V T (PE fun x e st' => x = .exit 0 ∧ ∃ v', e = ecOf [(3, v')] ∧ AccT 1 st' v' ((acc ++ bitsF k u).map bc)) [.code (.loop lp_script_Keep_0)] .normal (ecOf [(0, .int .i64 u), (3, v)]) st := by
  intro k
  have stop : ∀ (acc : List Bool) (st : St) (v : PV), AccT 1 st v (acc.map bc) → V T (PE fun x e st' => x = .exit 0 ∧ ∃ v', e = ecOf [(3, v')] ∧ AccT 1 st' v' (acc.map bc)) [.code (.loop lp_script_Keep_0)] .normal (ecOf [(0, .int .i64 (0 : Nat)), (3, v)]) st := by
    intro acc st v hA
    refine V_unroll ?_
    repeat' first | refine V_out [(3, v)] rfl ⟨rfl, trivial⟩ ⟨rfl, v, rfl, hA⟩ | refine V_O rfl ?_ | refine O_step rfl ?_ | refine O_nil' ?_ | refine V_cT rfl rfl ?_ | refine V_cF rfl rfl ?_ | refine V_cEq rfl rfl ?_ | refine V_cNe rfl rfl ?_ | refine V_cB rfl rfl (fun _ => ?_) (fun _ => ?_) | refine O_gT' rfl ?_ | refine O_gU' rfl ?_ | refine O_gF' rfl rfl ?_ | refine O_gEq rfl ?_ | refine O_gNe rfl ?_ | refine O_gS rfl (fun _ => ?_) (fun _ => ?_) | refine V_fA rfl rfl ?_ | refine V_fAN rfl rfl ?_ | refine V_D rfl ?_ | refine D_step rfl ?_ | refine D_nil' ?_ | refine D_gT' rfl ?_ | refine D_gU' rfl ?_ | refine D_gF' rfl rfl ?_ | refine D_gS rfl (fun _ => ?_) (fun _ => ?_)
  induction k with
  | zero =>
    intro u acc st v hu hk hl hA
    have : u = 0 := by simpa using hu
    subst this
    have := stop acc st v hA
    simpa [bitsF] using this
  | succ k ih =>
    intro u acc st v hu hk hl hA
    by_cases h0 : u = 0
    · subst h0
      have := stop acc st v hA
      simpa [bitsF] using this
    · have h63 : (2 : Nat) ^ (k + 1) ≤ 2 ^ 63 := Nat.pow_le_pow_right (by omega) hk
      have p63 : (2 : Nat) ^ 63 = 9223372036854775808 := rfl
      have hpos : PV.bool (decide ((0 : Int) < u)) = PV.bool true := dec_is (by omega)
      have e1 : PV.int .i64 (IntKind.i64.wrap ((BitVec.ofInt 64 (u : Int) &&& BitVec.ofInt 64 (1 : Int)).toNat : Int)) = PV.int .i64 ((u % 2 : Nat) : Int) := int_is (and1 u (by omega))
      have e2 : PV.bool (decide (((u % 2 : Nat) : Int) = 1)) = PV.bool (decide (u % 2 = 1)) := by
        congr 1
        rw [Bool.eq_iff_iff, decide_eq_true_eq, decide_eq_true_eq]
        omega
      have e3 : PV.int .i64 (Int.fdiv (u : Int) (2 ^ (min (1 : Int).toNat IntKind.i64.bits))) = PV.int .i64 ((u / 2 : Nat) : Int) := int_is (by
        rw [show (2 : Int) ^ (min (1 : Int).toNat IntKind.i64.bits) = 2 from rfl, Int.fdiv_eq_ediv_of_nonneg _ (by omega)]
        omega)
      obtain ⟨v', st', k1, k2, k3⟩ := hA.grow (bytes := 1) (src := [bc (decide (u % 2 = 1))]) (by simp) (by simp only [List.length_map, List.length_singleton, roomLen]; omega)
      have hf : (acc ++ [decide (u % 2 = 1)]).map bc = acc.map bc ++ [bc (decide (u % 2 = 1))] := by simp
      have hi := ih (u / 2) (acc ++ [decide (u % 2 = 1)]) st' v' (by rw [Nat.pow_succ] at hu; omega) (by omega) (by simp; omega) (by rw [hf]; exact k2)
      have hb : acc ++ bitsF (k + 1) u = acc ++ [decide (u % 2 = 1)] ++ bitsF k (u / 2) := by rw [bitsF, if_neg h0]; simp
      rw [hb]
      refine V_unroll ?_
      repeat' first | refine O_is hpos rfl ?_ | refine O_is e1 rfl ?_ | refine O_is e2 rfl ?_ | refine O_is e3 rfl ?_ | refine O_append rfl rfl rfl rfl (by decide) (by decide) k1 ?_ | refine V_re rfl hi ⟨rfl, rfl, trivial⟩ | refine V_O rfl ?_ | refine O_step rfl ?_ | refine O_nil' ?_ | refine V_cT rfl rfl ?_ | refine V_cF rfl rfl ?_ | refine V_cEq rfl rfl ?_ | refine V_cNe rfl rfl ?_ | refine V_cB rfl rfl (fun _ => ?_) (fun _ => ?_) | refine O_gT' rfl ?_ | refine O_gU' rfl ?_ | refine O_gF' rfl rfl ?_ | refine O_gEq rfl ?_ | refine O_gNe rfl ?_ | refine O_gS rfl (fun _ => ?_) (fun _ => ?_) | refine V_fA rfl rfl ?_ | refine V_fAN rfl rfl ?_ | refine V_D rfl ?_ | refine D_step rfl ?_ | refine D_nil' ?_ | refine D_gT' rfl ?_ | refine D_gU' rfl ?_ | refine D_gF' rfl rfl ?_ | refine D_gS rfl (fun _ => ?_) (fun _ => ?_)
theorem rkeep_loop : ∀ (k u : Nat) (acc : List Bool) (st : St) (v : PV), u < 2 ^ k → k ≤ 63 → acc.length + k ≤ 1000 → AccT 1 st v (acc.map bc) →
    V T (PE fun x e st' => x = .exit 0 ∧ ∃ v', e = ecOf [(3, v')] ∧ AccT 1 st' v' ((acc ++ bitsF k u).map bc)) [.code (.loop lp_rambleref25_Keep_0)] .normal (ecOf [(0, .int .i64 u), (3, v)]) st := by
  intro k
  have stop : ∀ (acc : List Bool) (st : St) (v : PV), AccT 1 st v (acc.map bc) → V T (PE fun x e st' => x = .exit 0 ∧ ∃ v', e = ecOf [(3, v')] ∧ AccT 1 st' v' (acc.map bc)) [.code (.loop lp_rambleref25_Keep_0)] .normal (ecOf [(0, .int .i64 (0 : Nat)), (3, v)]) st := by
    intro acc st v hA
    refine V_unroll ?_
    repeat' first | refine V_out [(3, v)] rfl ⟨rfl, trivial⟩ ⟨rfl, v, rfl, hA⟩ | refine V_O rfl ?_ | refine O_step rfl ?_ | refine O_nil' ?_ | refine V_cT rfl rfl ?_ | refine V_cF rfl rfl ?_ | refine V_cEq rfl rfl ?_ | refine V_cNe rfl rfl ?_ | refine V_cB rfl rfl (fun _ => ?_) (fun _ => ?_) | refine O_gT' rfl ?_ | refine O_gU' rfl ?_ | refine O_gF' rfl rfl ?_ | refine O_gEq rfl ?_ | refine O_gNe rfl ?_ | refine O_gS rfl (fun _ => ?_) (fun _ => ?_) | refine V_fA rfl rfl ?_ | refine V_fAN rfl rfl ?_ | refine V_D rfl ?_ | refine D_step rfl ?_ | refine D_nil' ?_ | refine D_gT' rfl ?_ | refine D_gU' rfl ?_ | refine D_gF' rfl rfl ?_ | refine D_gS rfl (fun _ => ?_) (fun _ => ?_)
  induction k with
  | zero =>
    intro u acc st v hu hk hl hA
    have : u = 0 := by simpa using hu
    subst this
    have := stop acc st v hA
    simpa [bitsF] using this
  | succ k ih =>
    intro u acc st v hu hk hl hA
    by_cases h0 : u = 0
    · subst h0
      have := stop acc st v hA
      simpa [bitsF] using this
    · have h63 : (2 : Nat) ^ (k + 1) ≤ 2 ^ 63 := Nat.pow_le_pow_right (by omega) hk
      have p63 : (2 : Nat) ^ 63 = 9223372036854775808 := rfl
      have hpos : PV.bool (decide ((0 : Int) < u)) = PV.bool true := dec_is (by omega)
      have e1 : PV.int .i64 ((u : Int).tmod 2) = PV.int .i64 ((u % 2 : Nat) : Int) := int_is (by rw [Int.tmod_eq_emod_of_nonneg (by omega)]; omega)
      have e2 : PV.bool (decide (((u % 2 : Nat) : Int) = 1)) = PV.bool (decide (u % 2 = 1)) := by
        congr 1
        rw [Bool.eq_iff_iff, decide_eq_true_eq, decide_eq_true_eq]
        omega
      have e3 : PV.int .i64 (IntKind.i64.wrap ((u : Int).tdiv 2)) = PV.int .i64 ((u / 2 : Nat) : Int) := int_is (by
        rw [Int.tdiv_eq_ediv_of_nonneg (by omega), wrap_i64]
        omega)
      obtain ⟨v', st', k1, k2, k3⟩ := hA.grow (bytes := 1) (src := [bc (decide (u % 2 = 1))]) (by simp) (by simp only [List.length_map, List.length_singleton, roomLen]; omega)
      have hf : (acc ++ [decide (u % 2 = 1)]).map bc = acc.map bc ++ [bc (decide (u % 2 = 1))] := by simp
      have hi := ih (u / 2) (acc ++ [decide (u % 2 = 1)]) st' v' (by rw [Nat.pow_succ] at hu; omega) (by omega) (by simp; omega) (by rw [hf]; exact k2)
      have hb : acc ++ bitsF (k + 1) u = acc ++ [decide (u % 2 = 1)] ++ bitsF k (u / 2) := by rw [bitsF, if_neg h0]; simp
      rw [hb]
      refine V_unroll ?_
      repeat' first | refine O_is hpos rfl ?_ | refine O_is e1 rfl ?_ | refine O_is e2 rfl ?_ | refine O_is e3 rfl ?_ | refine O_append rfl rfl rfl rfl (by decide) (by decide) k1 ?_ | refine V_re rfl hi ⟨rfl, rfl, trivial⟩ | refine V_O rfl ?_ | refine O_step rfl ?_ | refine O_nil' ?_ | refine V_cT rfl rfl ?_ | refine V_cF rfl rfl ?_ | refine V_cEq rfl rfl ?_ | refine V_cNe rfl rfl ?_ | refine V_cB rfl rfl (fun _ => ?_) (fun _ => ?_) | refine O_gT' rfl ?_ | refine O_gU' rfl ?_ | refine O_gF' rfl rfl ?_ | refine O_gEq rfl ?_ | refine O_gNe rfl ?_ | refine O_gS rfl (fun _ => ?_) (fun _ => ?_) | refine V_fA rfl rfl ?_ | refine V_fAN rfl rfl ?_ | refine V_D rfl ?_ | refine D_step rfl ?_ | refine D_nil' ?_ | refine D_gT' rfl ?_ | refine D_gU' rfl ?_ | refine D_gF' rfl rfl ?_ | refine D_gS rfl (fun _ => ?_) (fun _ => ?_)
theorem pl_bc (l : List Bool) : ∀ cs ∈ l.map bc, ∀ c ∈ cs, Pl c := fun cs h => by
  obtain ⟨n, _, rfl⟩ := List.mem_map.1 h
  exact pl_cons (.bool _) pl_nil
def bitsI (n : Int) : List Bool := bitsF 63 n.toNat
theorem keep_stop {n : Int} (hn : ¬ 0 < n) (acc : List Bool) (st : St) (v : PV) (hA : AccT 1 st v (acc.map bc)) : V T (PE fun x e st' => x = .exit 0 ∧ ∃ v', e = ecOf [(3, v')] ∧ AccT 1 st' v' (acc.map bc)) [.code (.loop lp_script_Keep_0)] .normal (ecOf [(0, .int .i64 n), (3, v)]) st := by
  have hpos : PV.bool (decide ((0 : Int) < n)) = PV.bool false := dec_not hn
  refine V_unroll ?_
  repeat' first | refine O_is hpos rfl ?_ | refine V_out [(3, v)] rfl ⟨rfl, trivial⟩ ⟨rfl, v, rfl, hA⟩ | refine V_O rfl ?_ | refine O_step rfl ?_ | refine O_nil' ?_ | refine V_cT rfl rfl ?_ | refine V_cF rfl rfl ?_ | refine V_cEq rfl rfl ?_ | refine V_cNe rfl rfl ?_ | refine V_cB rfl rfl (fun _ => ?_) (fun _ => ?_) | refine O_gT' rfl ?_ | refine O_gU' rfl ?_ | refine O_gF' rfl rfl ?_ | refine O_gEq rfl ?_ | refine O_gNe rfl ?_ | refine O_gS rfl (fun _ => ?_) (fun _ => ?_) | refine V_fA rfl rfl ?_ | refine V_fAN rfl rfl ?_ | refine V_D rfl ?_ | refine D_step rfl ?_ | refine D_nil' ?_ | refine D_gT' rfl ?_ | refine D_gU' rfl ?_ | refine D_gF' rfl rfl ?_ | refine D_gS rfl (fun _ => ?_) (fun _ => ?_)
theorem run_Keep {n : Int} (h : R64 n) : ∃ p, T.R (.call n_script_Keep [.int .i64 n] p) ∧ LV bc p (bitsI n) := by
  unfold R64 at h
  have p63 : (2 : Nat) ^ 63 = 9223372036854775808 := rfl
  have hl : V T (PE fun x e st' => x = .exit 0 ∧ ∃ v', e = ecOf [(3, v')] ∧ AccT 1 st' v' ((bitsI n).map bc)) [.code (.loop lp_script_Keep_0)] .normal (ecOf [(0, .int .i64 n), (3, .nilSl)]) emptySt := by
    by_cases h0 : 0 < n
    · have hl := keep_loop 63 n.toNat [] emptySt .nilSl (by omega) (by omega) (by simp) (.inl ⟨rfl, rfl⟩)
      rw [List.nil_append, show ((n.toNat : Nat) : Int) = n by omega] at hl
      exact hl
    · have hb : bitsI n = [] := by unfold bitsI; rw [show n.toNat = 0 by omega]; rfl
      rw [hb]
      exact keep_stop h0 [] emptySt .nilSl (.inl ⟨rfl, rfl⟩)
  refine call_VQ rfl rfl ?_
  repeat' first | refine V_cutTo rfl hl ⟨rfl, rfl, trivial⟩ ?_ | refine V_O rfl ?_ | refine O_step rfl ?_ | refine O_nil' ?_ | refine V_cT rfl rfl ?_ | refine V_cF rfl rfl ?_ | refine V_cEq rfl rfl ?_ | refine V_cNe rfl rfl ?_ | refine V_cB rfl rfl (fun _ => ?_) (fun _ => ?_) | refine O_gT' rfl ?_ | refine O_gU' rfl ?_ | refine O_gF' rfl rfl ?_ | refine O_gEq rfl ?_ | refine O_gNe rfl ?_ | refine O_gS rfl (fun _ => ?_) (fun _ => ?_) | refine V_fA rfl rfl ?_ | refine V_fAN rfl rfl ?_ | refine V_D rfl ?_ | refine D_step rfl ?_ | refine D_nil' ?_ | refine D_gT' rfl ?_ | refine D_gU' rfl ?_ | refine D_gF' rfl rfl ?_ | refine D_gS rfl (fun _ => ?_) (fun _ => ?_)
  rintro x e' st' ⟨rfl, v', rfl, hA⟩
  rcases hA with ⟨rfl, h0⟩ | ⟨t, g, rfl, hg, hlt⟩
  · have : bitsI n = [] := by simpa using h0
    rw [this]
    repeat' first | refine V_O rfl ?_ | refine O_step rfl ?_ | refine O_nil' ?_ | refine V_cT rfl rfl ?_ | refine V_cF rfl rfl ?_ | refine V_cEq rfl rfl ?_ | refine V_cNe rfl rfl ?_ | refine V_cB rfl rfl (fun _ => ?_) (fun _ => ?_) | refine O_gT' rfl ?_ | refine O_gU' rfl ?_ | refine O_gF' rfl rfl ?_ | refine O_gEq rfl ?_ | refine O_gNe rfl ?_ | refine O_gS rfl (fun _ => ?_) (fun _ => ?_) | refine V_fA rfl rfl ?_ | refine V_fAN rfl rfl ?_ | refine V_D rfl ?_ | refine D_step rfl ?_ | refine D_nil' ?_ | refine D_gT' rfl ?_ | refine D_gU' rfl ?_ | refine D_gF' rfl rfl ?_ | refine D_gS rfl (fun _ => ?_) (fun _ => ?_)
    exact .nil
  · repeat' first | refine V_fin rfl rfl (view_osl0 hg (.inl rfl) rfl (pl_bc _)) (.sl _ _) | refine V_O rfl ?_ | refine O_step rfl ?_ | refine O_nil' ?_ | refine V_cT rfl rfl ?_ | refine V_cF rfl rfl ?_ | refine V_cEq rfl rfl ?_ | refine V_cNe rfl rfl ?_ | refine V_cB rfl rfl (fun _ => ?_) (fun _ => ?_) | refine O_gT' rfl ?_ | refine O_gU' rfl ?_ | refine O_gF' rfl rfl ?_ | refine O_gEq rfl ?_ | refine O_gNe rfl ?_ | refine O_gS rfl (fun _ => ?_) (fun _ => ?_) | refine V_fA rfl rfl ?_ | refine V_fAN rfl rfl ?_ | refine V_D rfl ?_ | refine D_step rfl ?_ | refine D_nil' ?_ | refine D_gT' rfl ?_ | refine D_gU' rfl ?_ | refine D_gF' rfl rfl ?_ | refine D_gS rfl (fun _ => ?_) (fun _ => ?_)
theorem rkeep_stop {n : Int} (hn : ¬ 0 < n) (acc : List Bool) (st : St) (v : PV) (hA : AccT 1 st v (acc.map bc)) : V T (PE fun x e st' => x = .exit 0 ∧ ∃ v', e = ecOf [(3, v')] ∧ AccT 1 st' v' (acc.map bc)) [.code (.loop lp_rambleref25_Keep_0)] .normal (ecOf [(0, .int .i64 n), (3, v)]) st := by
  have hpos : PV.bool (decide ((0 : Int) < n)) = PV.bool false := dec_not hn
  refine V_unroll ?_
  repeat' first | refine O_is hpos rfl ?_ | refine V_out [(3, v)] rfl ⟨rfl, trivial⟩ ⟨rfl, v, rfl, hA⟩ | refine V_O rfl ?_ | refine O_step rfl ?_ | refine O_nil' ?_ | refine V_cT rfl rfl ?_ | refine V_cF rfl rfl ?_ | refine V_cEq rfl rfl ?_ | refine V_cNe rfl rfl ?_ | refine V_cB rfl rfl (fun _ => ?_) (fun _ => ?_) | refine O_gT' rfl ?_ | refine O_gU' rfl ?_ | refine O_gF' rfl rfl ?_ | refine O_gEq rfl ?_ | refine O_gNe rfl ?_ | refine O_gS rfl (fun _ => ?_) (fun _ => ?_) | refine V_fA rfl rfl ?_ | refine V_fAN rfl rfl ?_ | refine V_D rfl ?_ | refine D_step rfl ?_ | refine D_nil' ?_ | refine D_gT' rfl ?_ | refine D_gU' rfl ?_ | refine D_gF' rfl rfl ?_ | refine D_gS rfl (fun _ => ?_) (fun _ => ?_)
theorem run_rKeep {n : Int} (h : R64 n) : ∃ p, T.R (.call n_rambleref25_Keep [.int .i64 n] p) ∧ LV bc p (bitsI n) := by
  unfold R64 at h
  have p63 : (2 : Nat) ^ 63 = 9223372036854775808 := rfl
  have hl : V T (PE fun x e st' => x = .exit 0 ∧ ∃ v', e = ecOf [(3, v')] ∧ AccT 1 st' v' ((bitsI n).map bc)) [.code (.loop lp_rambleref25_Keep_0)] .normal (ecOf [(0, .int .i64 n), (3, .nilSl)]) emptySt := by
    by_cases h0 : 0 < n
    · have hl := rkeep_loop 63 n.toNat [] emptySt .nilSl (by omega) (by omega) (by simp) (.inl ⟨rfl, rfl⟩)
      rw [List.nil_append, show ((n.toNat : Nat) : Int) = n by omega] at hl
      exact hl
    · have hb : bitsI n = [] := by unfold bitsI; rw [show n.toNat = 0 by omega]; rfl
      rw [hb]
      exact rkeep_stop h0 [] emptySt .nilSl (.inl ⟨rfl, rfl⟩)
  refine call_VQ rfl rfl ?_
  repeat' first | refine V_cutTo rfl hl ⟨rfl, rfl, trivial⟩ ?_ | refine V_O rfl ?_ | refine O_step rfl ?_ | refine O_nil' ?_ | refine V_cT rfl rfl ?_ | refine V_cF rfl rfl ?_ | refine V_cEq rfl rfl ?_ | refine V_cNe rfl rfl ?_ | refine V_cB rfl rfl (fun _ => ?_) (fun _ => ?_) | refine O_gT' rfl ?_ | refine O_gU' rfl ?_ | refine O_gF' rfl rfl ?_ | refine O_gEq rfl ?_ | refine O_gNe rfl ?_ | refine O_gS rfl (fun _ => ?_) (fun _ => ?_) | refine V_fA rfl rfl ?_ | refine V_fAN rfl rfl ?_ | refine V_D rfl ?_ | refine D_step rfl ?_ | refine D_nil' ?_ | refine D_gT' rfl ?_ | refine D_gU' rfl ?_ | refine D_gF' rfl rfl ?_ | refine D_gS rfl (fun _ => ?_) (fun _ => ?_)
  rintro x e' st' ⟨rfl, v', rfl, hA⟩
  rcases hA with ⟨rfl, h0⟩ | ⟨t, g, rfl, hg, hlt⟩
  · have : bitsI n = [] := by simpa using h0
    rw [this]
    repeat' first | refine V_O rfl ?_ | refine O_step rfl ?_ | refine O_nil' ?_ | refine V_cT rfl rfl ?_ | refine V_cF rfl rfl ?_ | refine V_cEq rfl rfl ?_ | refine V_cNe rfl rfl ?_ | refine V_cB rfl rfl (fun _ => ?_) (fun _ => ?_) | refine O_gT' rfl ?_ | refine O_gU' rfl ?_ | refine O_gF' rfl rfl ?_ | refine O_gEq rfl ?_ | refine O_gNe rfl ?_ | refine O_gS rfl (fun _ => ?_) (fun _ => ?_) | refine V_fA rfl rfl ?_ | refine V_fAN rfl rfl ?_ | refine V_D rfl ?_ | refine D_step rfl ?_ | refine D_nil' ?_ | refine D_gT' rfl ?_ | refine D_gU' rfl ?_ | refine D_gF' rfl rfl ?_ | refine D_gS rfl (fun _ => ?_) (fun _ => ?_)
    exact .nil
  · repeat' first | refine V_fin rfl rfl (view_osl0 hg (.inl rfl) rfl (pl_bc _)) (.sl _ _) | refine V_O rfl ?_ | refine O_step rfl ?_ | refine O_nil' ?_ | refine V_cT rfl rfl ?_ | refine V_cF rfl rfl ?_ | refine V_cEq rfl rfl ?_ | refine V_cNe rfl rfl ?_ | refine V_cB rfl rfl (fun _ => ?_) (fun _ => ?_) | refine O_gT' rfl ?_ | refine O_gU' rfl ?_ | refine O_gF' rfl rfl ?_ | refine O_gEq rfl ?_ | refine O_gNe rfl ?_ | refine O_gS rfl (fun _ => ?_) (fun _ => ?_) | refine V_fA rfl rfl ?_ | refine V_fAN rfl rfl ?_ | refine V_D rfl ?_ | refine D_step rfl ?_ | refine D_nil' ?_ | refine D_gT' rfl ?_ | refine D_gU' rfl ?_ | refine D_gF' rfl rfl ?_ | refine D_gS rfl (fun _ => ?_) (fun _ => ?_)
theorem eqb_loop {p q : PV} {l : List Bool} (hp : LV bc p l) (hq : LV bc q l) (hl0 : l.length ≤ 9223372036854775800) : ∀ (rest pre : List Bool), l = pre ++ rest →
    V T (PE fun x e st' => x = .exit 0 ∧ st' = emptySt ∧ e = .nil) [.code (.loop lp_slices_Equal_bool_bool_0)] .normal (ecOf [(0, p), (1, q), (12, .int .i64 l.length), (13, .int .i64 pre.length)]) emptySt := by
  intro rest
  induction rest with
  | nil =>
    intro pre hl
    have hlt : decide ((pre.length : Int) < l.length) = false := decide_eq_false (by subst hl; simp)
    refine V_unroll ?_
    repeat' first | refine V_cH hlt rfl rfl ?_ | refine V_out [] rfl trivial ⟨rfl, rfl, rfl⟩ | refine V_O rfl ?_ | refine O_step rfl ?_ | refine O_nil' ?_ | refine V_cT rfl rfl ?_ | refine V_cF rfl rfl ?_ | refine V_cEq rfl rfl ?_ | refine V_cNe rfl rfl ?_ | refine V_cB rfl rfl (fun _ => ?_) (fun _ => ?_) | refine O_gT' rfl ?_ | refine O_gU' rfl ?_ | refine O_gF' rfl rfl ?_ | refine O_gEq rfl ?_ | refine O_gNe rfl ?_ | refine O_gS rfl (fun _ => ?_) (fun _ => ?_) | refine V_fA rfl rfl ?_ | refine V_fAN rfl rfl ?_ | refine V_D rfl ?_ | refine D_step rfl ?_ | refine D_nil' ?_ | refine D_gT' rfl ?_ | refine D_gU' rfl ?_ | refine D_gF' rfl rfl ?_ | refine D_gS rfl (fun _ => ?_) (fun _ => ?_)
  | cons c rest ih =>
    intro pre hl
    have hlt : decide ((pre.length : Int) < l.length) = true := decide_eq_true (by subst hl; simp; omega)
    have hpl : pre.length < l.length := by subst hl; simp
    have hat : l[(pre.length : Int).toNat]? = some c := by subst hl; simp
    have hw : IntKind.i64.wrap ((pre.length : Int) + 1) = ((pre ++ [c]).length : Int) := by rw [wrap_i64]; simp; omega
    have hi := ih (pre ++ [c]) (by rw [hl]; simp)
    refine V_unroll ?_
    cases c
    · repeat' first | refine V_cHT hlt rfl rfl ?_ | refine D_idxL _ rfl hp rfl (by omega) hat rfl ?_ | refine D_idxL _ rfl hq rfl (by omega) hat rfl ?_ | refine V_re rfl hi ⟨rfl, rfl, rfl, some_int hw, trivial⟩ | refine V_O rfl ?_ | refine O_step rfl ?_ | refine O_nil' ?_ | refine V_cT rfl rfl ?_ | refine V_cF rfl rfl ?_ | refine V_cEq rfl rfl ?_ | refine V_cNe rfl rfl ?_ | refine V_cB rfl rfl (fun _ => ?_) (fun _ => ?_) | refine O_gT' rfl ?_ | refine O_gU' rfl ?_ | refine O_gF' rfl rfl ?_ | refine O_gEq rfl ?_ | refine O_gNe rfl ?_ | refine O_gS rfl (fun _ => ?_) (fun _ => ?_) | refine V_fA rfl rfl ?_ | refine V_fAN rfl rfl ?_ | refine V_D rfl ?_ | refine D_step rfl ?_ | refine D_nil' ?_ | refine D_gT' rfl ?_ | refine D_gU' rfl ?_ | refine D_gF' rfl rfl ?_ | refine D_gS rfl (fun _ => ?_) (fun _ => ?_)
    · repeat' first | refine V_cHT hlt rfl rfl ?_ | refine D_idxL _ rfl hp rfl (by omega) hat rfl ?_ | refine D_idxL _ rfl hq rfl (by omega) hat rfl ?_ | refine V_re rfl hi ⟨rfl, rfl, rfl, some_int hw, trivial⟩ | refine V_O rfl ?_ | refine O_step rfl ?_ | refine O_nil' ?_ | refine V_cT rfl rfl ?_ | refine V_cF rfl rfl ?_ | refine V_cEq rfl rfl ?_ | refine V_cNe rfl rfl ?_ | refine V_cB rfl rfl (fun _ => ?_) (fun _ => ?_) | refine O_gT' rfl ?_ | refine O_gU' rfl ?_ | refine O_gF' rfl rfl ?_ | refine O_gEq rfl ?_ | refine O_gNe rfl ?_ | refine O_gS rfl (fun _ => ?_) (fun _ => ?_) | refine V_fA rfl rfl ?_ | refine V_fAN rfl rfl ?_ | refine V_D rfl ?_ | refine D_step rfl ?_ | refine D_nil' ?_ | refine D_gT' rfl ?_ | refine D_gU' rfl ?_ | refine D_gF' rfl rfl ?_ | refine D_gS rfl (fun _ => ?_) (fun _ => ?_)
theorem run_EqualB {p q : PV} {l : List Bool} (hp : LV bc p l) (hq : LV bc q l) (hl0 : l.length ≤ 9223372036854775800) : T.R (.call n_slices_Equal_bool_bool [p, q] (.bool true)) := by
  have hl := eqb_loop hp hq hl0 l [] rfl
  have hne : PV.bool (!decide ((l.length : Int) = l.length)) = PV.bool false := ndec_is rfl
  refine call_V rfl rfl ?_
  repeat' first | refine O_lenL rfl hp ?_ | refine O_lenL rfl hq ?_ | refine O_is hne rfl ?_ | refine V_cutTo rfl hl ⟨rfl, rfl, rfl, rfl, trivial⟩ ?_ | refine V_O rfl ?_ | refine O_step rfl ?_ | refine O_nil' ?_ | refine V_cT rfl rfl ?_ | refine V_cF rfl rfl ?_ | refine V_cEq rfl rfl ?_ | refine V_cNe rfl rfl ?_ | refine V_cB rfl rfl (fun _ => ?_) (fun _ => ?_) | refine O_gT' rfl ?_ | refine O_gU' rfl ?_ | refine O_gF' rfl rfl ?_ | refine O_gEq rfl ?_ | refine O_gNe rfl ?_ | refine O_gS rfl (fun _ => ?_) (fun _ => ?_) | refine V_fA rfl rfl ?_ | refine V_fAN rfl rfl ?_ | refine V_D rfl ?_ | refine D_step rfl ?_ | refine D_nil' ?_ | refine D_gT' rfl ?_ | refine D_gU' rfl ?_ | refine D_gF' rfl rfl ?_ | refine D_gS rfl (fun _ => ?_) (fun _ => ?_)
  rintro x e' st' ⟨rfl, rfl, rfl⟩
  repeat' first | refine V_O rfl ?_ | refine O_step rfl ?_ | refine O_nil' ?_ | refine V_cT rfl rfl ?_ | refine V_cF rfl rfl ?_ | refine V_cEq rfl rfl ?_ | refine V_cNe rfl rfl ?_ | refine V_cB rfl rfl (fun _ => ?_) (fun _ => ?_) | refine O_gT' rfl ?_ | refine O_gU' rfl ?_ | refine O_gF' rfl rfl ?_ | refine O_gEq rfl ?_ | refine O_gNe rfl ?_ | refine O_gS rfl (fun _ => ?_) (fun _ => ?_) | refine V_fA rfl rfl ?_ | refine V_fAN rfl rfl ?_ | refine V_D rfl ?_ | refine D_step rfl ?_ | refine D_nil' ?_ | refine D_gT' rfl ?_ | refine D_gU' rfl ?_ | refine D_gF' rfl rfl ?_ | refine D_gS rfl (fun _ => ?_) (fun _ => ?_)
  rfl
def wBegin : List UInt8 := [98, 101, 103, 105, 110]
def wCommit : List UInt8 := [99, 111, 109, 109, 105, 116]
def wRoll : List UInt8 := [114, 111, 108, 108, 98, 97, 99, 107]
def wQuery : List UInt8 := [113, 117, 101, 114, 121]
def wCount : List UInt8 := [99, 111, 117, 110, 116]
def wCrash : List UInt8 := [99, 114, 97, 115, 104]
def wordL (k : Int) : List UInt8 := if k = 1 then wBegin else if k = 2 then wCommit else if k = 3 then wRoll else if k = 4 then wQuery else if k = 5 then wCount else if k = 6 then wCrash else []
theorem six {k : Int} (h1 : ¬ k < 1) (h2 : ¬ 6 < k) : k = 1 ∨ k = 2 ∨ k = 3 ∨ k = 4 ∨ k = 5 ∨ k = 6 := by omega
theorem wordL_out {k : Int} (h : k < 1 ∨ 6 < k) : wordL k = [] := by
  unfold wordL
  rw [if_neg (by omega), if_neg (by omega), if_neg (by omega), if_neg (by omega), if_neg (by omega), if_neg (by omega)]
theorem run_words : T.R (.call n_strings_Split [.str [98, 101, 103, 105, 110, 32, 99, 111, 109, 109, 105, 116, 32, 114, 111, 108, 108, 98, 97, 99, 107, 32, 113, 117, 101, 114, 121, 32, 99, 111, 117, 110, 116, 32, 99, 114, 97, 115, 104], .str [32]] (.sl [[.str wBegin], [.str wCommit], [.str wRoll], [.str wQuery], [.str wCount], [.str wCrash]] false)) :=
  run_Split [98, 101, 103, 105, 110, 32, 99, 111, 109, 109, 105, 116, 32, 114, 111, 108, 108, 98, 97, 99, 107, 32, 113, 117, 101, 114, 121, 32, 99, 111, 117, 110, 116, 32, 99, 114, 97, 115, 104] 32 (by decide)
theorem run_word (k : Int) : T.R (.call n_script_word [.int .i64 k] (.str (wordL k))) := by
  have hs := run_words
  have plv : Pl (.sl [[.str wBegin], [.str wCommit], [.str wRoll], [.str wQuery], [.str wCount], [.str wCrash]] false) := .sl _ _ (fun cs h => by
    simp only [List.mem_cons, List.not_mem_nil, or_false] at h
    rcases h with rfl | rfl | rfl | rfl | rfl | rfl <;> exact pl_cons (.str _) pl_nil)
  by_cases h1 : k < 1
  · rw [wordL_out (.inl h1)]
    refine call_V rfl rfl ?_
    repeat' first | refine O_cA rfl rfl hs ?_ | refine O_is (dec_is h1) rfl ?_ | refine V_O rfl ?_ | refine O_step rfl ?_ | refine O_nil' ?_ | refine V_cT rfl rfl ?_ | refine V_cF rfl rfl ?_ | refine V_cEq rfl rfl ?_ | refine V_cNe rfl rfl ?_ | refine V_cB rfl rfl (fun _ => ?_) (fun _ => ?_) | refine O_gT' rfl ?_ | refine O_gU' rfl ?_ | refine O_gF' rfl rfl ?_ | refine O_gEq rfl ?_ | refine O_gNe rfl ?_ | refine O_gS rfl (fun _ => ?_) (fun _ => ?_) | refine V_fA rfl rfl ?_ | refine V_fAN rfl rfl ?_ | refine V_D rfl ?_ | refine D_step rfl ?_ | refine D_nil' ?_ | refine D_gT' rfl ?_ | refine D_gU' rfl ?_ | refine D_gF' rfl rfl ?_ | refine D_gS rfl (fun _ => ?_) (fun _ => ?_)
    rfl
  · by_cases h2 : 6 < k
    · rw [wordL_out (.inr h2)]
      refine call_V rfl rfl ?_
      repeat' first | refine O_cA rfl rfl hs ?_ | refine O_is (dec_not h1) rfl ?_ | refine O_is (dec_is h2) rfl ?_ | refine V_O rfl ?_ | refine O_step rfl ?_ | refine O_nil' ?_ | refine V_cT rfl rfl ?_ | refine V_cF rfl rfl ?_ | refine V_cEq rfl rfl ?_ | refine V_cNe rfl rfl ?_ | refine V_cB rfl rfl (fun _ => ?_) (fun _ => ?_) | refine O_gT' rfl ?_ | refine O_gU' rfl ?_ | refine O_gF' rfl rfl ?_ | refine O_gEq rfl ?_ | refine O_gNe rfl ?_ | refine O_gS rfl (fun _ => ?_) (fun _ => ?_) | refine V_fA rfl rfl ?_ | refine V_fAN rfl rfl ?_ | refine V_D rfl ?_ | refine D_step rfl ?_ | refine D_nil' ?_ | refine D_gT' rfl ?_ | refine D_gU' rfl ?_ | refine D_gF' rfl rfl ?_ | refine D_gS rfl (fun _ => ?_) (fun _ => ?_)
      rfl
    · rcases six h1 h2 with rfl | rfl | rfl | rfl | rfl | rfl
      all_goals refine call_V rfl rfl ?_
      all_goals repeat' first | refine O_cA rfl rfl hs ?_ | refine V_O rfl ?_ | refine O_step rfl ?_ | refine O_nil' ?_ | refine V_cT rfl rfl ?_ | refine V_cF rfl rfl ?_ | refine V_cEq rfl rfl ?_ | refine V_cNe rfl rfl ?_ | refine V_cB rfl rfl (fun _ => ?_) (fun _ => ?_) | refine O_gT' rfl ?_ | refine O_gU' rfl ?_ | refine O_gF' rfl rfl ?_ | refine O_gEq rfl ?_ | refine O_gNe rfl ?_ | refine O_gS rfl (fun _ => ?_) (fun _ => ?_) | refine V_fA rfl rfl ?_ | refine V_fAN rfl rfl ?_ | refine V_D rfl ?_ | refine D_step rfl ?_ | refine D_nil' ?_ | refine D_gT' rfl ?_ | refine D_gU' rfl ?_ | refine D_gF' rfl rfl ?_ | refine D_gS rfl (fun _ => ?_) (fun _ => ?_)
      all_goals rfl
theorem run_rWord (k : Int) : T.R (.call n_rambleref25_word [.int .i64 k] (.str (wordL k))) := by
  unfold wordL
  refine call_V rfl rfl ?_
  by_cases h1 : k = 1
  · subst h1
    repeat' first | refine V_O rfl ?_ | refine O_step rfl ?_ | refine O_nil' ?_ | refine V_cT rfl rfl ?_ | refine V_cF rfl rfl ?_ | refine V_cEq rfl rfl ?_ | refine V_cNe rfl rfl ?_ | refine V_cB rfl rfl (fun _ => ?_) (fun _ => ?_) | refine O_gT' rfl ?_ | refine O_gU' rfl ?_ | refine O_gF' rfl rfl ?_ | refine O_gEq rfl ?_ | refine O_gNe rfl ?_ | refine O_gS rfl (fun _ => ?_) (fun _ => ?_) | refine V_fA rfl rfl ?_ | refine V_fAN rfl rfl ?_ | refine V_D rfl ?_ | refine D_step rfl ?_ | refine D_nil' ?_ | refine D_gT' rfl ?_ | refine D_gU' rfl ?_ | refine D_gF' rfl rfl ?_ | refine D_gS rfl (fun _ => ?_) (fun _ => ?_)
    rfl
  · by_cases h2 : k = 2
    · subst h2
      repeat' first | refine V_O rfl ?_ | refine O_step rfl ?_ | refine O_nil' ?_ | refine V_cT rfl rfl ?_ | refine V_cF rfl rfl ?_ | refine V_cEq rfl rfl ?_ | refine V_cNe rfl rfl ?_ | refine V_cB rfl rfl (fun _ => ?_) (fun _ => ?_) | refine O_gT' rfl ?_ | refine O_gU' rfl ?_ | refine O_gF' rfl rfl ?_ | refine O_gEq rfl ?_ | refine O_gNe rfl ?_ | refine O_gS rfl (fun _ => ?_) (fun _ => ?_) | refine V_fA rfl rfl ?_ | refine V_fAN rfl rfl ?_ | refine V_D rfl ?_ | refine D_step rfl ?_ | refine D_nil' ?_ | refine D_gT' rfl ?_ | refine D_gU' rfl ?_ | refine D_gF' rfl rfl ?_ | refine D_gS rfl (fun _ => ?_) (fun _ => ?_)
      rfl
    · by_cases h3 : k = 3
      · subst h3
        repeat' first | refine V_O rfl ?_ | refine O_step rfl ?_ | refine O_nil' ?_ | refine V_cT rfl rfl ?_ | refine V_cF rfl rfl ?_ | refine V_cEq rfl rfl ?_ | refine V_cNe rfl rfl ?_ | refine V_cB rfl rfl (fun _ => ?_) (fun _ => ?_) | refine O_gT' rfl ?_ | refine O_gU' rfl ?_ | refine O_gF' rfl rfl ?_ | refine O_gEq rfl ?_ | refine O_gNe rfl ?_ | refine O_gS rfl (fun _ => ?_) (fun _ => ?_) | refine V_fA rfl rfl ?_ | refine V_fAN rfl rfl ?_ | refine V_D rfl ?_ | refine D_step rfl ?_ | refine D_nil' ?_ | refine D_gT' rfl ?_ | refine D_gU' rfl ?_ | refine D_gF' rfl rfl ?_ | refine D_gS rfl (fun _ => ?_) (fun _ => ?_)
        rfl
      · by_cases h4 : k = 4
        · subst h4
          repeat' first | refine V_O rfl ?_ | refine O_step rfl ?_ | refine O_nil' ?_ | refine V_cT rfl rfl ?_ | refine V_cF rfl rfl ?_ | refine V_cEq rfl rfl ?_ | refine V_cNe rfl rfl ?_ | refine V_cB rfl rfl (fun _ => ?_) (fun _ => ?_) | refine O_gT' rfl ?_ | refine O_gU' rfl ?_ | refine O_gF' rfl rfl ?_ | refine O_gEq rfl ?_ | refine O_gNe rfl ?_ | refine O_gS rfl (fun _ => ?_) (fun _ => ?_) | refine V_fA rfl rfl ?_ | refine V_fAN rfl rfl ?_ | refine V_D rfl ?_ | refine D_step rfl ?_ | refine D_nil' ?_ | refine D_gT' rfl ?_ | refine D_gU' rfl ?_ | refine D_gF' rfl rfl ?_ | refine D_gS rfl (fun _ => ?_) (fun _ => ?_)
          rfl
        · by_cases h5 : k = 5
          · subst h5
            repeat' first | refine V_O rfl ?_ | refine O_step rfl ?_ | refine O_nil' ?_ | refine V_cT rfl rfl ?_ | refine V_cF rfl rfl ?_ | refine V_cEq rfl rfl ?_ | refine V_cNe rfl rfl ?_ | refine V_cB rfl rfl (fun _ => ?_) (fun _ => ?_) | refine O_gT' rfl ?_ | refine O_gU' rfl ?_ | refine O_gF' rfl rfl ?_ | refine O_gEq rfl ?_ | refine O_gNe rfl ?_ | refine O_gS rfl (fun _ => ?_) (fun _ => ?_) | refine V_fA rfl rfl ?_ | refine V_fAN rfl rfl ?_ | refine V_D rfl ?_ | refine D_step rfl ?_ | refine D_nil' ?_ | refine D_gT' rfl ?_ | refine D_gU' rfl ?_ | refine D_gF' rfl rfl ?_ | refine D_gS rfl (fun _ => ?_) (fun _ => ?_)
            rfl
          · by_cases h6 : k = 6
            · subst h6
              repeat' first | refine V_O rfl ?_ | refine O_step rfl ?_ | refine O_nil' ?_ | refine V_cT rfl rfl ?_ | refine V_cF rfl rfl ?_ | refine V_cEq rfl rfl ?_ | refine V_cNe rfl rfl ?_ | refine V_cB rfl rfl (fun _ => ?_) (fun _ => ?_) | refine O_gT' rfl ?_ | refine O_gU' rfl ?_ | refine O_gF' rfl rfl ?_ | refine O_gEq rfl ?_ | refine O_gNe rfl ?_ | refine O_gS rfl (fun _ => ?_) (fun _ => ?_) | refine V_fA rfl rfl ?_ | refine V_fAN rfl rfl ?_ | refine V_D rfl ?_ | refine D_step rfl ?_ | refine D_nil' ?_ | refine D_gT' rfl ?_ | refine D_gU' rfl ?_ | refine D_gF' rfl rfl ?_ | refine D_gS rfl (fun _ => ?_) (fun _ => ?_)
              rfl
            · rw [if_neg h1, if_neg h2, if_neg h3, if_neg h4, if_neg h5, if_neg h6]
              repeat' first | refine O_is (dec_not h1) rfl ?_ | refine O_is (dec_not h2) rfl ?_ | refine O_is (dec_not h3) rfl ?_ | refine O_is (dec_not h4) rfl ?_ | refine O_is (dec_not h5) rfl ?_ | refine O_is (dec_not h6) rfl ?_ | refine V_O rfl ?_ | refine O_step rfl ?_ | refine O_nil' ?_ | refine V_cT rfl rfl ?_ | refine V_cF rfl rfl ?_ | refine V_cEq rfl rfl ?_ | refine V_cNe rfl rfl ?_ | refine V_cB rfl rfl (fun _ => ?_) (fun _ => ?_) | refine O_gT' rfl ?_ | refine O_gU' rfl ?_ | refine O_gF' rfl rfl ?_ | refine O_gEq rfl ?_ | refine O_gNe rfl ?_ | refine O_gS rfl (fun _ => ?_) (fun _ => ?_) | refine V_fA rfl rfl ?_ | refine V_fAN rfl rfl ?_ | refine V_D rfl ?_ | refine D_step rfl ?_ | refine D_nil' ?_ | refine D_gT' rfl ?_ | refine D_gU' rfl ?_ | refine D_gF' rfl rfl ?_ | refine D_gS rfl (fun _ => ?_) (fun _ => ?_)
              rfl
end Go.Proofs.YtbeaalkfakjoiaaDoor

/- script.ParseLine. -/
import Derived.Test.YtbeaalkfakjoiaaDoorScrC
set_option linter.unusedVariables false
set_option linter.unusedSimpArgs false
namespace Go.Proofs.YtbeaalkfakjoiaaDoor
open Go Go.AM Go.RowKit
noncomputable def cand (k n : Int) (more : List UInt8) : Cm := if k = 6 then ⟨6, 0, [], n, (parT more).1⟩ else ⟨k, n, more, 0, 0⟩
def acc (c : Cm) (s : List UInt8) : Prop := (lineR c).2 = 0 ∧ (lineR c).1 = s
instance (c : Cm) (s : List UInt8) : Decidable (acc c s) := by unfold acc; infer_instance
def A0 : St := ⟨0, 1, [(0, .var z5)]⟩
def A1 (p q : List PV) : St := ⟨0, 2, [(0, .var p), (1, .var q)]⟩
def cutP (s : List UInt8) : List UInt8 × List UInt8 := match cutB 32 s with
  | none => (s, [])
  | some p => p
def twoC : Option Cm → PV
  | none => .tuple [.agg z5, .bool false]
  | some c => .tuple [.agg (cells c), .bool true]
theorem wordL_inj {i j : Int} (hi : 1 ≤ i ∧ i ≤ 6) (hj : 1 ≤ j ∧ j ≤ 6) (h : wordL i = wordL j) : i = j := by
  rcases six (k := i) (by omega) (by omega) with rfl | rfl | rfl | rfl | rfl | rfl <;> rcases six (k := j) (by omega) (by omega) with rfl | rfl | rfl | rfl | rfl | rfl <;> first | rfl | (exact absurd h (by decide))
theorem parT_r (s : List UInt8) : R64 (parT s).1 := by
  rcases Classical.em (GoodD s) with h | h
  · rw [par_good h]
    unfold ans
    split
    · assumption
    · decide
  · rw [par_bad h]
    decide
theorem tail_loop (s w more : List UInt8) (n : Int) (st : St) {P : EX → EC → St → Prop} (hP : P (.exit 0) (ecOf [(2, .ptr 0 0)]) st) : ∀ (m : Nat) (kd : Int), kd + m = 7 → 1 ≤ kd → (∀ j, kd ≤ j → j ≤ 6 → wordL j ≠ w) →
    V T (PE P) [.code (.loop lp_script_ParseLine_0)] .normal (ecOf [(0, .str s), (2, .ptr 0 0), (4, .str w), (8, .str more), (10, .int .i64 n), (12, .int .i64 kd)]) st := by
  intro m
  induction m with
  | zero =>
    intro kd hm h1 hno
    have hk : ¬ kd ≤ 6 := by omega
    refine V_unroll ?_
    repeat' first | refine O_is (dec_not hk) rfl ?_ | refine V_out [(2, .ptr 0 0)] rfl ⟨rfl, trivial⟩ hP | refine V_O rfl ?_ | refine O_step rfl ?_ | refine O_nil' ?_ | refine V_cT rfl rfl ?_ | refine V_cF rfl rfl ?_ | refine V_cEq rfl rfl ?_ | refine V_cNe rfl rfl ?_ | refine V_cB rfl rfl (fun _ => ?_) (fun _ => ?_) | refine O_gT' rfl ?_ | refine O_gU' rfl ?_ | refine O_gF' rfl rfl ?_ | refine O_gEq rfl ?_ | refine O_gNe rfl ?_ | refine O_gS rfl (fun _ => ?_) (fun _ => ?_) | refine V_fA rfl rfl ?_ | refine V_fAN rfl rfl ?_ | refine V_D rfl ?_ | refine D_step rfl ?_ | refine D_nil' ?_ | refine D_gT' rfl ?_ | refine D_gU' rfl ?_ | refine D_gF' rfl rfl ?_ | refine D_gS rfl (fun _ => ?_) (fun _ => ?_)
  | succ m ih =>
    intro kd hm h1 hno
    have hk : kd ≤ 6 := by omega
    have hw := run_word kd
    have hne : ¬ wordL kd = w := hno kd (by omega) hk
    generalize wordL kd = W at hw hne
    have hwr : IntKind.i64.wrap (kd + 1) = kd + 1 := by rw [wrap_i64]; omega
    have hi := ih (kd + 1) (by omega) (by omega) (fun j h1 h2 => hno j (by omega) h2)
    refine V_unroll ?_
    repeat' first | refine O_is (dec_is hk) rfl ?_ | refine O_cA rfl rfl hw ?_ | refine O_is (ndec_not hne) rfl ?_ | refine V_re rfl hi ⟨rfl, rfl, rfl, rfl, rfl, some_int hwr, trivial⟩ | refine V_O rfl ?_ | refine O_step rfl ?_ | refine O_nil' ?_ | refine V_cT rfl rfl ?_ | refine V_cF rfl rfl ?_ | refine V_cEq rfl rfl ?_ | refine V_cNe rfl rfl ?_ | refine V_cB rfl rfl (fun _ => ?_) (fun _ => ?_) | refine O_gT' rfl ?_ | refine O_gU' rfl ?_ | refine O_gF' rfl rfl ?_ | refine O_gEq rfl ?_ | refine O_gNe rfl ?_ | refine O_gS rfl (fun _ => ?_) (fun _ => ?_) | refine V_fA rfl rfl ?_ | refine V_fAN rfl rfl ?_ | refine V_D rfl ?_ | refine D_step rfl ?_ | refine D_nil' ?_ | refine D_gT' rfl ?_ | refine D_gU' rfl ?_ | refine D_gF' rfl rfl ?_ | refine D_gS rfl (fun _ => ?_) (fun _ => ?_)
def plP (s w more : List UInt8) (n : Int) : EX → EC → St → Prop := fun x e st => (x = .exit 0 ∧ e = ecOf [(2, .ptr 0 0)] ∧ (st = A0 ∨ ∃ q, st = A1 z5 q) ∧ ∀ k, 1 ≤ k → k ≤ 6 → wordL k = w → ¬ acc (cand k n more) s) ∨ (x = .ret ∧ ∃ k, 1 ≤ k ∧ k ≤ 6 ∧ wordL k = w ∧ acc (cand k n more) s ∧ e = ecOf [(2, .ptr 0 0), (3, .bool true)] ∧ st = A1 (cells (cand k n more)) (cells (cand k n more)))
set_option maxHeartbeats 4000000 in
theorem match_step {s w more : List UInt8} {n : Int} (hn : R64 n) (hm : more.length ≤ 140737488355328) {kd : Int} (h1 : 1 ≤ kd) (hk : kd ≤ 6) (hw0 : wordL kd = w)
    (hi : ¬ acc (cand kd n more) s → V T (PE (plP s w more n)) [.code (.loop lp_script_ParseLine_0)] .normal (ecOf [(0, .str s), (2, .ptr 0 0), (4, .str w), (8, .str more), (10, .int .i64 n), (12, .int .i64 (kd + 1))]) (A1 z5 (cells (cand kd n more)))) :
    V T (PE (plP s w more n)) [.code (.loop lp_script_ParseLine_0)] .normal (ecOf [(0, .str s), (2, .ptr 0 0), (4, .str w), (8, .str more), (10, .int .i64 n), (12, .int .i64 kd)]) A0 := by
  have hw := run_word kd
  rw [hw0] at hw
  have hp := run_Parse (s := more) (by omega)
  have hpr := parT_r more
  have hwr : IntKind.i64.wrap (kd + 1) = kd + 1 := by rw [wrap_i64]; omega
  unfold two at hp
  have hne : PV.bool (!decide (w = w)) = PV.bool false := ndec_is rfl
  by_cases h6 : kd = 6
  · subst h6
    have hc : cand 6 n more = ⟨6, 0, [], n, (parT more).1⟩ := rfl
    have hln := run_Line (k := 6) (se := 0) (t := []) (to := n) (ke := (parT more).1) (by decide) hn hpr (by simp)
    rw [hc] at hi
    have ha := Classical.em (acc ⟨6, 0, [], n, (parT more).1⟩ s)
    have fin := fun h2 h3 => (.inr ⟨rfl, 6, h1, hk, hw0, ⟨h2, h3⟩, rfl, rfl⟩ : plP s w more n .ret (ecOf [(2, .ptr 0 0), (3, .bool true)]) (A1 (cells (cand 6 n more)) (cells (cand 6 n more))))
    rw [hc] at fin
    unfold acc at ha fin hi
    generalize parT more = pm at *
    generalize lineR ⟨6, 0, [], n, pm.1⟩ = L at *
    unfold twoS at hln
    have plk := pl_k5 6 0 [] n pm.1
    by_cases g1 : L.2 = 0
    · by_cases g2 : L.1 = s
      · have hf := fin g1 g2
        refine V_unroll ?_
        repeat' first | refine O_cA rfl rfl hw ?_ | refine O_is hne rfl ?_ | refine O_cA rfl rfl hp ?_ | refine O_cA rfl rfl hln ?_ | refine O_is (dec_is g1) rfl ?_ | refine O_is (dec_is g2) rfl ?_ | refine V_out [(2, .ptr 0 0), (3, .bool true)] rfl ⟨rfl, rfl, trivial⟩ hf | refine O_step rfl ?_ | refine O_stepL rfl ?_ | refine V_O rfl ?_ | refine O_step rfl ?_ | refine O_nil' ?_ | refine V_cT rfl rfl ?_ | refine V_cF rfl rfl ?_ | refine V_cEq rfl rfl ?_ | refine V_cNe rfl rfl ?_ | refine V_cB rfl rfl (fun _ => ?_) (fun _ => ?_) | refine O_gT' rfl ?_ | refine O_gU' rfl ?_ | refine O_gF' rfl rfl ?_ | refine O_gEq rfl ?_ | refine O_gNe rfl ?_ | refine O_gS rfl (fun _ => ?_) (fun _ => ?_) | refine V_fA rfl rfl ?_ | refine V_fAN rfl rfl ?_ | refine V_D rfl ?_ | refine D_step rfl ?_ | refine D_nil' ?_ | refine D_gT' rfl ?_ | refine D_gU' rfl ?_ | refine D_gF' rfl rfl ?_ | refine D_gS rfl (fun _ => ?_) (fun _ => ?_)
      · have hi' := hi (fun h => g2 h.2)
        refine V_unroll ?_
        repeat' first | refine O_cA rfl rfl hw ?_ | refine O_is hne rfl ?_ | refine O_cA rfl rfl hp ?_ | refine O_cA rfl rfl hln ?_ | refine O_is (dec_is g1) rfl ?_ | refine O_is (dec_not g2) rfl ?_ | refine V_re rfl hi' ⟨rfl, rfl, rfl, rfl, rfl, some_int hwr, trivial⟩ | refine O_step rfl ?_ | refine O_stepL rfl ?_ | refine V_O rfl ?_ | refine O_step rfl ?_ | refine O_nil' ?_ | refine V_cT rfl rfl ?_ | refine V_cF rfl rfl ?_ | refine V_cEq rfl rfl ?_ | refine V_cNe rfl rfl ?_ | refine V_cB rfl rfl (fun _ => ?_) (fun _ => ?_) | refine O_gT' rfl ?_ | refine O_gU' rfl ?_ | refine O_gF' rfl rfl ?_ | refine O_gEq rfl ?_ | refine O_gNe rfl ?_ | refine O_gS rfl (fun _ => ?_) (fun _ => ?_) | refine V_fA rfl rfl ?_ | refine V_fAN rfl rfl ?_ | refine V_D rfl ?_ | refine D_step rfl ?_ | refine D_nil' ?_ | refine D_gT' rfl ?_ | refine D_gU' rfl ?_ | refine D_gF' rfl rfl ?_ | refine D_gS rfl (fun _ => ?_) (fun _ => ?_)
    · have hi' := hi (fun h => g1 h.1)
      refine V_unroll ?_
      repeat' first | refine O_cA rfl rfl hw ?_ | refine O_is hne rfl ?_ | refine O_cA rfl rfl hp ?_ | refine O_cA rfl rfl hln ?_ | refine O_is (dec_not g1) rfl ?_ | refine V_re rfl hi' ⟨rfl, rfl, rfl, rfl, rfl, some_int hwr, trivial⟩ | refine O_step rfl ?_ | refine O_stepL rfl ?_ | refine V_O rfl ?_ | refine O_step rfl ?_ | refine O_nil' ?_ | refine V_cT rfl rfl ?_ | refine V_cF rfl rfl ?_ | refine V_cEq rfl rfl ?_ | refine V_cNe rfl rfl ?_ | refine V_cB rfl rfl (fun _ => ?_) (fun _ => ?_) | refine O_gT' rfl ?_ | refine O_gU' rfl ?_ | refine O_gF' rfl rfl ?_ | refine O_gEq rfl ?_ | refine O_gNe rfl ?_ | refine O_gS rfl (fun _ => ?_) (fun _ => ?_) | refine V_fA rfl rfl ?_ | refine V_fAN rfl rfl ?_ | refine V_D rfl ?_ | refine D_step rfl ?_ | refine D_nil' ?_ | refine D_gT' rfl ?_ | refine D_gU' rfl ?_ | refine D_gF' rfl rfl ?_ | refine D_gS rfl (fun _ => ?_) (fun _ => ?_)
  · have hc : cand kd n more = ⟨kd, n, more, 0, 0⟩ := by unfold cand; rw [if_neg h6]
    have hln := run_Line (k := kd) (se := n) (t := more) (to := 0) (ke := 0) hn (by decide) (by decide) hm
    rw [hc] at hi
    have fin := fun h2 h3 => (.inr ⟨rfl, kd, h1, hk, hw0, ⟨h2, h3⟩, rfl, rfl⟩ : plP s w more n .ret (ecOf [(2, .ptr 0 0), (3, .bool true)]) (A1 (cells (cand kd n more)) (cells (cand kd n more))))
    rw [hc] at fin
    unfold acc at fin hi
    generalize lineR ⟨kd, n, more, 0, 0⟩ = L at *
    unfold twoS at hln
    have plk := pl_k5 kd n more 0 0
    by_cases g1 : L.2 = 0
    · by_cases g2 : L.1 = s
      · have hf := fin g1 g2
        refine V_unroll ?_
        repeat' first | refine O_is (dec_is hk) rfl ?_ | refine O_cA rfl rfl hw ?_ | refine O_is hne rfl ?_ | refine O_is (dec_not h6) rfl ?_ | refine O_cA rfl rfl hln ?_ | refine O_is (dec_is g1) rfl ?_ | refine O_is (dec_is g2) rfl ?_ | refine V_out [(2, .ptr 0 0), (3, .bool true)] rfl ⟨rfl, rfl, trivial⟩ hf | refine O_step rfl ?_ | refine O_stepL rfl ?_ | refine V_O rfl ?_ | refine O_step rfl ?_ | refine O_nil' ?_ | refine V_cT rfl rfl ?_ | refine V_cF rfl rfl ?_ | refine V_cEq rfl rfl ?_ | refine V_cNe rfl rfl ?_ | refine V_cB rfl rfl (fun _ => ?_) (fun _ => ?_) | refine O_gT' rfl ?_ | refine O_gU' rfl ?_ | refine O_gF' rfl rfl ?_ | refine O_gEq rfl ?_ | refine O_gNe rfl ?_ | refine O_gS rfl (fun _ => ?_) (fun _ => ?_) | refine V_fA rfl rfl ?_ | refine V_fAN rfl rfl ?_ | refine V_D rfl ?_ | refine D_step rfl ?_ | refine D_nil' ?_ | refine D_gT' rfl ?_ | refine D_gU' rfl ?_ | refine D_gF' rfl rfl ?_ | refine D_gS rfl (fun _ => ?_) (fun _ => ?_)
      · have hi' := hi (fun h => g2 h.2)
        refine V_unroll ?_
        repeat' first | refine O_is (dec_is hk) rfl ?_ | refine O_cA rfl rfl hw ?_ | refine O_is hne rfl ?_ | refine O_is (dec_not h6) rfl ?_ | refine O_cA rfl rfl hln ?_ | refine O_is (dec_is g1) rfl ?_ | refine O_is (dec_not g2) rfl ?_ | refine V_re rfl hi' ⟨rfl, rfl, rfl, rfl, rfl, some_int hwr, trivial⟩ | refine O_step rfl ?_ | refine O_stepL rfl ?_ | refine V_O rfl ?_ | refine O_step rfl ?_ | refine O_nil' ?_ | refine V_cT rfl rfl ?_ | refine V_cF rfl rfl ?_ | refine V_cEq rfl rfl ?_ | refine V_cNe rfl rfl ?_ | refine V_cB rfl rfl (fun _ => ?_) (fun _ => ?_) | refine O_gT' rfl ?_ | refine O_gU' rfl ?_ | refine O_gF' rfl rfl ?_ | refine O_gEq rfl ?_ | refine O_gNe rfl ?_ | refine O_gS rfl (fun _ => ?_) (fun _ => ?_) | refine V_fA rfl rfl ?_ | refine V_fAN rfl rfl ?_ | refine V_D rfl ?_ | refine D_step rfl ?_ | refine D_nil' ?_ | refine D_gT' rfl ?_ | refine D_gU' rfl ?_ | refine D_gF' rfl rfl ?_ | refine D_gS rfl (fun _ => ?_) (fun _ => ?_)
    · have hi' := hi (fun h => g1 h.1)
      refine V_unroll ?_
      repeat' first | refine O_is (dec_is hk) rfl ?_ | refine O_cA rfl rfl hw ?_ | refine O_is hne rfl ?_ | refine O_is (dec_not h6) rfl ?_ | refine O_cA rfl rfl hln ?_ | refine O_is (dec_not g1) rfl ?_ | refine V_re rfl hi' ⟨rfl, rfl, rfl, rfl, rfl, some_int hwr, trivial⟩ | refine O_step rfl ?_ | refine O_stepL rfl ?_ | refine V_O rfl ?_ | refine O_step rfl ?_ | refine O_nil' ?_ | refine V_cT rfl rfl ?_ | refine V_cF rfl rfl ?_ | refine V_cEq rfl rfl ?_ | refine V_cNe rfl rfl ?_ | refine V_cB rfl rfl (fun _ => ?_) (fun _ => ?_) | refine O_gT' rfl ?_ | refine O_gU' rfl ?_ | refine O_gF' rfl rfl ?_ | refine O_gEq rfl ?_ | refine O_gNe rfl ?_ | refine O_gS rfl (fun _ => ?_) (fun _ => ?_) | refine V_fA rfl rfl ?_ | refine V_fAN rfl rfl ?_ | refine V_D rfl ?_ | refine D_step rfl ?_ | refine D_nil' ?_ | refine D_gT' rfl ?_ | refine D_gU' rfl ?_ | refine D_gF' rfl rfl ?_ | refine D_gS rfl (fun _ => ?_) (fun _ => ?_)
theorem pl_loop {s w more : List UInt8} {n : Int} (hn : R64 n) (hm : more.length ≤ 140737488355328) : ∀ (m : Nat) (kd : Int), kd + m = 7 → 1 ≤ kd → (∀ j, 1 ≤ j → j < kd → wordL j ≠ w) →
    V T (PE (plP s w more n)) [.code (.loop lp_script_ParseLine_0)] .normal (ecOf [(0, .str s), (2, .ptr 0 0), (4, .str w), (8, .str more), (10, .int .i64 n), (12, .int .i64 kd)]) A0 := by
  intro m
  induction m with
  | zero =>
    intro kd h7 h1 hno
    exact tail_loop s w more n A0 (.inl ⟨rfl, rfl, .inl rfl, fun k k1 k2 k3 => absurd k3 (hno k k1 (by omega))⟩) 0 kd h7 h1 (fun j j1 j2 => hno j (by omega) (by omega))
  | succ m ih =>
    intro kd h7 h1 hno
    have hk : kd ≤ 6 := by omega
    by_cases hw : wordL kd = w
    · refine match_step hn hm h1 hk hw fun hna => ?_
      have q1 : ∀ k, 1 ≤ k → k ≤ 6 → wordL k = w → ¬ acc (cand k n more) s := fun k k1 k2 k3 => by
        have := wordL_inj ⟨k1, k2⟩ ⟨h1, hk⟩ (k3.trans hw.symm)
        rw [this]
        exact hna
      have q2 : ∀ j, kd + 1 ≤ j → j ≤ 6 → wordL j ≠ w := fun j j1 j2 hj => by
        have := wordL_inj ⟨by omega, j2⟩ ⟨h1, hk⟩ (hj.trans hw.symm)
        omega
      exact tail_loop s w more n _ (.inl ⟨rfl, rfl, .inr ⟨_, rfl⟩, q1⟩) m (kd + 1) (by omega) (by omega) q2
    · have hno' : ∀ j, 1 ≤ j → j < kd + 1 → wordL j ≠ w := fun j j1 j2 => by
        by_cases e : j = kd
        · rw [e]; exact hw
        · exact hno j j1 (by omega)
      have hi := ih (kd + 1) (by omega) (by omega) hno'
      have hwd := run_word kd
      generalize wordL kd = W at hwd hw
      have hwr : IntKind.i64.wrap (kd + 1) = kd + 1 := by rw [wrap_i64]; omega
      refine V_unroll ?_
      repeat' first | refine O_is (dec_is hk) rfl ?_ | refine O_cA rfl rfl hwd ?_ | refine O_is (ndec_not hw) rfl ?_ | refine V_re rfl hi ⟨rfl, rfl, rfl, rfl, rfl, some_int hwr, trivial⟩ | refine V_O rfl ?_ | refine O_step rfl ?_ | refine O_nil' ?_ | refine V_cT rfl rfl ?_ | refine V_cF rfl rfl ?_ | refine V_cEq rfl rfl ?_ | refine V_cNe rfl rfl ?_ | refine V_cB rfl rfl (fun _ => ?_) (fun _ => ?_) | refine O_gT' rfl ?_ | refine O_gU' rfl ?_ | refine O_gF' rfl rfl ?_ | refine O_gEq rfl ?_ | refine O_gNe rfl ?_ | refine O_gS rfl (fun _ => ?_) (fun _ => ?_) | refine V_fA rfl rfl ?_ | refine V_fAN rfl rfl ?_ | refine V_D rfl ?_ | refine D_step rfl ?_ | refine D_nil' ?_ | refine D_gT' rfl ?_ | refine D_gU' rfl ?_ | refine D_gF' rfl rfl ?_ | refine D_gS rfl (fun _ => ?_) (fun _ => ?_)
theorem cutT_P (s : List UInt8) : ∃ b, cutT 32 s = .tuple [.str (cutP s).1, .str (cutP s).2, .bool b] := by
  unfold cutT cutP
  cases cutB 32 s with
  | none => exact ⟨_, rfl⟩
  | some p => exact ⟨_, rfl⟩
theorem cutP_len (s : List UInt8) : (cutP s).1.length ≤ s.length ∧ (cutP s).2.length ≤ s.length := by
  unfold cutP
  cases h : cutB 32 s with
  | none => simp
  | some p =>
    obtain ⟨x, y⟩ := p
    obtain ⟨h1, -⟩ := cutB_some h
    rw [h1]
    simp
    omega
def Says (s : List UInt8) (o : Option Cm) : Prop :=
  ((parT (cutP (cutP s).2).1).2 ≠ 0 ∧ o = none) ∨ ((parT (cutP (cutP s).2).1).2 = 0 ∧ ((o = none ∧ ∀ k, 1 ≤ k → k ≤ 6 → wordL k = (cutP s).1 → ¬ acc (cand k (parT (cutP (cutP s).2).1).1 (cutP (cutP s).2).2) s) ∨ ∃ k, 1 ≤ k ∧ k ≤ 6 ∧ wordL k = (cutP s).1 ∧ acc (cand k (parT (cutP (cutP s).2).1).1 (cutP (cutP s).2).2) s ∧ o = some (cand k (parT (cutP (cutP s).2).1).1 (cutP (cutP s).2).2)))
theorem Says.inj {s : List UInt8} {a b : Option Cm} (ha : Says s a) (hb : Says s b) : a = b := by
  rcases ha with ⟨a1, rfl⟩ | ⟨a1, ⟨rfl, a2⟩ | ⟨k, k1, k2, k3, k4, rfl⟩⟩
  · rcases hb with ⟨b1, rfl⟩ | ⟨b1, _⟩
    · rfl
    · exact absurd b1 a1
  · rcases hb with ⟨b1, rfl⟩ | ⟨b1, ⟨rfl, b2⟩ | ⟨k, k1, k2, k3, k4, rfl⟩⟩
    · rfl
    · rfl
    · exact absurd k4 (a2 k k1 k2 k3)
  · rcases hb with ⟨b1, rfl⟩ | ⟨b1, ⟨rfl, b2⟩ | ⟨j, j1, j2, j3, j4, rfl⟩⟩
    · exact absurd a1 b1
    · exact absurd k4 (b2 k k1 k2 k3)
    · rw [wordL_inj ⟨k1, k2⟩ ⟨j1, j2⟩ (k3.trans j3.symm)]
set_option maxHeartbeats 4000000 in
theorem run_ParseLine {s : List UInt8} (hs : s.length ≤ 140737488355328) : ∃ o, T.R (.call n_script_ParseLine [.str s] (twoC o)) ∧ Says s o := by
  have hc1 := run_Cut s 32 (by omega)
  obtain ⟨b1, e1⟩ := cutT_P s
  have hl1 := cutP_len s
  have hc2 := run_Cut (cutP s).2 32 (by omega)
  obtain ⟨b2, e2⟩ := cutT_P (cutP s).2
  have hl2 := cutP_len (cutP s).2
  rw [e1] at hc1
  rw [e2] at hc2
  have hp := run_Parse (s := (cutP (cutP s).2).1) (by omega)
  have hpr := parT_r (cutP (cutP s).2).1
  have hm : (cutP (cutP s).2).2.length ≤ 140737488355328 := by omega
  unfold Says
  generalize (cutP s).1 = w at *
  generalize cutP (cutP s).2 = q at *
  obtain ⟨first, more⟩ := q
  simp only at *
  generalize parT first = pm at *
  obtain ⟨n, er⟩ := pm
  unfold two at hp
  simp only at *
  have key : ∃ r, T.R (.call n_script_ParseLine [.str s] r) ∧ ∃ o, r = twoC o ∧ ((er ≠ 0 ∧ o = none) ∨ (er = 0 ∧ ((o = none ∧ ∀ k, 1 ≤ k → k ≤ 6 → wordL k = w → ¬ acc (cand k n more) s) ∨ ∃ k, 1 ≤ k ∧ k ≤ 6 ∧ wordL k = w ∧ acc (cand k n more) s ∧ o = some (cand k n more)))) := by
    by_cases g1 : er = 0
    · have hl := pl_loop (s := s) (w := w) hpr hm 6 1 rfl (by omega) (fun j j1 j2 => by omega)
      refine call_VQ rfl rfl ?_
      repeat' first | refine O_cA rfl rfl hc1 ?_ | refine O_cA rfl rfl hc2 ?_ | refine O_cA rfl rfl hp ?_ | refine O_is (ndec_is g1) rfl ?_ | refine V_cutTo rfl hl ⟨rfl, rfl, rfl, rfl, rfl, rfl, trivial⟩ ?_ | refine O_step rfl ?_ | refine O_stepL rfl ?_ | refine V_O rfl ?_ | refine O_step rfl ?_ | refine O_nil' ?_ | refine V_cT rfl rfl ?_ | refine V_cF rfl rfl ?_ | refine V_cEq rfl rfl ?_ | refine V_cNe rfl rfl ?_ | refine V_cB rfl rfl (fun _ => ?_) (fun _ => ?_) | refine O_gT' rfl ?_ | refine O_gU' rfl ?_ | refine O_gF' rfl rfl ?_ | refine O_gEq rfl ?_ | refine O_gNe rfl ?_ | refine O_gS rfl (fun _ => ?_) (fun _ => ?_) | refine V_fA rfl rfl ?_ | refine V_fAN rfl rfl ?_ | refine V_D rfl ?_ | refine D_step rfl ?_ | refine D_nil' ?_ | refine D_gT' rfl ?_ | refine D_gU' rfl ?_ | refine D_gF' rfl rfl ?_ | refine D_gS rfl (fun _ => ?_) (fun _ => ?_)
      rintro x e' st' (⟨rfl, rfl, rfl | ⟨q, rfl⟩, hno⟩ | ⟨rfl, k, k1, k2, k3, k4, rfl, rfl⟩)
      · repeat' first | refine O_stepL rfl ?_ | refine V_O rfl ?_ | refine O_step rfl ?_ | refine O_nil' ?_ | refine V_cT rfl rfl ?_ | refine V_cF rfl rfl ?_ | refine V_cEq rfl rfl ?_ | refine V_cNe rfl rfl ?_ | refine V_cB rfl rfl (fun _ => ?_) (fun _ => ?_) | refine O_gT' rfl ?_ | refine O_gU' rfl ?_ | refine O_gF' rfl rfl ?_ | refine O_gEq rfl ?_ | refine O_gNe rfl ?_ | refine O_gS rfl (fun _ => ?_) (fun _ => ?_) | refine V_fA rfl rfl ?_ | refine V_fAN rfl rfl ?_ | refine V_D rfl ?_ | refine D_step rfl ?_ | refine D_nil' ?_ | refine D_gT' rfl ?_ | refine D_gU' rfl ?_ | refine D_gF' rfl rfl ?_ | refine D_gS rfl (fun _ => ?_) (fun _ => ?_)
        exact ⟨none, rfl, .inr ⟨g1, .inl ⟨rfl, hno⟩⟩⟩
      · repeat' first | refine O_stepL rfl ?_ | refine V_O rfl ?_ | refine O_step rfl ?_ | refine O_nil' ?_ | refine V_cT rfl rfl ?_ | refine V_cF rfl rfl ?_ | refine V_cEq rfl rfl ?_ | refine V_cNe rfl rfl ?_ | refine V_cB rfl rfl (fun _ => ?_) (fun _ => ?_) | refine O_gT' rfl ?_ | refine O_gU' rfl ?_ | refine O_gF' rfl rfl ?_ | refine O_gEq rfl ?_ | refine O_gNe rfl ?_ | refine O_gS rfl (fun _ => ?_) (fun _ => ?_) | refine V_fA rfl rfl ?_ | refine V_fAN rfl rfl ?_ | refine V_D rfl ?_ | refine D_step rfl ?_ | refine D_nil' ?_ | refine D_gT' rfl ?_ | refine D_gU' rfl ?_ | refine D_gF' rfl rfl ?_ | refine D_gS rfl (fun _ => ?_) (fun _ => ?_)
        exact ⟨none, rfl, .inr ⟨g1, .inl ⟨rfl, hno⟩⟩⟩
      · have plk := pl_cells (cand k n more)
        repeat' first | refine V_O rfl ?_ | refine O_step rfl ?_ | refine O_nil' ?_ | refine V_cT rfl rfl ?_ | refine V_cF rfl rfl ?_ | refine V_cEq rfl rfl ?_ | refine V_cNe rfl rfl ?_ | refine V_cB rfl rfl (fun _ => ?_) (fun _ => ?_) | refine O_gT' rfl ?_ | refine O_gU' rfl ?_ | refine O_gF' rfl rfl ?_ | refine O_gEq rfl ?_ | refine O_gNe rfl ?_ | refine O_gS rfl (fun _ => ?_) (fun _ => ?_) | refine V_fA rfl rfl ?_ | refine V_fAN rfl rfl ?_ | refine V_D rfl ?_ | refine D_step rfl ?_ | refine D_nil' ?_ | refine D_gT' rfl ?_ | refine D_gU' rfl ?_ | refine D_gF' rfl rfl ?_ | refine D_gS rfl (fun _ => ?_) (fun _ => ?_)
        exact ⟨some _, rfl, .inr ⟨g1, .inr ⟨k, k1, k2, k3, k4, rfl⟩⟩⟩
    · refine call_VQ rfl rfl ?_
      repeat' first | refine O_cA rfl rfl hc1 ?_ | refine O_cA rfl rfl hc2 ?_ | refine O_cA rfl rfl hp ?_ | refine O_is (ndec_not g1) rfl ?_ | refine O_step rfl ?_ | refine O_stepL rfl ?_ | refine V_O rfl ?_ | refine O_step rfl ?_ | refine O_nil' ?_ | refine V_cT rfl rfl ?_ | refine V_cF rfl rfl ?_ | refine V_cEq rfl rfl ?_ | refine V_cNe rfl rfl ?_ | refine V_cB rfl rfl (fun _ => ?_) (fun _ => ?_) | refine O_gT' rfl ?_ | refine O_gU' rfl ?_ | refine O_gF' rfl rfl ?_ | refine O_gEq rfl ?_ | refine O_gNe rfl ?_ | refine O_gS rfl (fun _ => ?_) (fun _ => ?_) | refine V_fA rfl rfl ?_ | refine V_fAN rfl rfl ?_ | refine V_D rfl ?_ | refine D_step rfl ?_ | refine D_nil' ?_ | refine D_gT' rfl ?_ | refine D_gU' rfl ?_ | refine D_gF' rfl rfl ?_ | refine D_gS rfl (fun _ => ?_) (fun _ => ?_)
      exact ⟨none, rfl, .inl ⟨g1, rfl⟩⟩
  obtain ⟨r, hr, o, rfl, ho⟩ := key
  exact ⟨o, hr, ho⟩
end Go.Proofs.YtbeaalkfakjoiaaDoor

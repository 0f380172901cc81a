/- script.ParseLine. · What a taken line looks like; rambleref25.ParseLine. · A script's text: its lines, its head; print and read; they undo each other: plain. -/
import Derived.Test.YtbeaalkfakjoiaaDoorScrBToScrC
set_option linter.unusedVariables false
set_option linter.unusedSimpArgs false
namespace Go.Proofs.YtbeaalkfakjoiaaDoor
open Go Go.AM Go.RowKit
noncomputable def cand (k n : Int) (more : List UInt8) : Cm := if k = 6 then ⟨6, 0, [], n, (parT more).1⟩ else ⟨k, n, more, 0, 0⟩
def acc (c : Cm) (s : List UInt8) : Prop := (lineR c).2 = 0 ∧ (lineR c).1 = s
instance (c : Cm) (s : List UInt8) : Decidable (acc c s) := by unfold acc; infer_instance
def A0 : St := ⟨0, 1, [(0, .var z5)]⟩
def A1 (p q : List PV) : St := ⟨0, 2, [(0, .var p), (1, .var q)]⟩
def cutP (s : List UInt8) : List UInt8 × List UInt8 := match cutB 32 s with
  | none => (s, [])
  | some p => p
def twoC : Option Cm → PV
  | none => .tuple [.agg z5, .bool false]
  | some c => .tuple [.agg (cells c), .bool true]
theorem wordL_inj {i j : Int} (hi : 1 ≤ i ∧ i ≤ 6) (hj : 1 ≤ j ∧ j ≤ 6) (h : wordL i = wordL j) : i = j := by
  rcases six (k := i) (by omega) (by omega) with rfl | rfl | rfl | rfl | rfl | rfl <;> rcases six (k := j) (by omega) (by omega) with rfl | rfl | rfl | rfl | rfl | rfl <;> first | rfl | (exact absurd h (by decide))
theorem parT_r (s : List UInt8) : R64 (parT s).1 := by
  rcases Classical.em (GoodD s) with h | h
  · rw [par_good h]
    unfold ans
    split
    · assumption
    · decide
  · rw [par_bad h]
    decide
theorem tail_loop (s w more : List UInt8) (n : Int) (st : St) {P : EX → EC → St → Prop} (hP : P (.exit 0) (ecOf [(2, .ptr 0 0)]) st) : ∀ (m : Nat) (kd : Int), kd + m = 7 → 1 ≤ kd → (∀ j, kd ≤ j → j ≤ 6 → wordL j ≠ w) →
    V T (PE P) [.code (.loop lp_script_ParseLine_0)] .normal (ecOf [(0, .str s), (2, .ptr 0 0), (4, .str w), (8, .str more), (10, .int .i64 n), (12, .int .i64 kd)]) st := by
  intro m
  induction m with
  | zero =>
    intro kd hm h1 hno
    have hk : ¬ kd ≤ 6 := by omega
    refine V_unroll ?_
    repeat' first | ((with_reducible show V _ _ _ _ _ _); first | refine V_out [(2, .ptr 0 0)] rfl ⟨rfl, trivial⟩ hP | refine V_O rfl ?_ | refine V_cT rfl rfl ?_ | refine V_cF rfl rfl ?_ | refine V_cEq rfl rfl ?_ | refine V_cNe rfl rfl ?_ | refine V_cB rfl rfl (fun _ => ?_) (fun _ => ?_) | refine V_fA rfl rfl ?_ | refine V_fAN rfl rfl ?_ | refine V_D rfl ?_) | ((with_reducible show VO _ _ _ _ _ _ _); first | refine O_is (dec_not hk) rfl ?_ | refine O_step rfl ?_ | refine O_nil' ?_ | refine O_gT' rfl ?_ | refine O_gU' rfl ?_ | refine O_gF' rfl rfl ?_ | refine O_gEq rfl ?_ | refine O_gNe rfl ?_ | refine O_gS rfl (fun _ => ?_) (fun _ => ?_)) | ((with_reducible show VD _ _ _ _ _ _ _); first | refine D_step rfl ?_ | refine D_nil' ?_ | refine D_gT' rfl ?_ | refine D_gU' rfl ?_ | refine D_gF' rfl rfl ?_ | refine D_gS rfl (fun _ => ?_) (fun _ => ?_))
  | succ m ih =>
    intro kd hm h1 hno
    have hk : kd ≤ 6 := by omega
    have hw := run_word kd
    have hne : ¬ wordL kd = w := hno kd (by omega) hk
    generalize wordL kd = W at hw hne
    have hwr : IntKind.i64.wrap (kd + 1) = kd + 1 := by rw [wrap_i64]; omega
    have hi := ih (kd + 1) (by omega) (by omega) (fun j h1 h2 => hno j (by omega) h2)
    refine V_unroll ?_
    repeat' first | ((with_reducible show V _ _ _ _ _ _); first | refine V_re rfl hi ⟨rfl, rfl, rfl, rfl, rfl, some_int hwr, trivial⟩ | refine V_O rfl ?_ | refine V_cT rfl rfl ?_ | refine V_cF rfl rfl ?_ | refine V_cEq rfl rfl ?_ | refine V_cNe rfl rfl ?_ | refine V_cB rfl rfl (fun _ => ?_) (fun _ => ?_) | refine V_fA rfl rfl ?_ | refine V_fAN rfl rfl ?_ | refine V_D rfl ?_) | ((with_reducible show VO _ _ _ _ _ _ _); first | refine O_is (dec_is hk) rfl ?_ | refine O_cA rfl rfl hw ?_ | refine O_is (ndec_not hne) rfl ?_ | refine O_step rfl ?_ | refine O_nil' ?_ | refine O_gT' rfl ?_ | refine O_gU' rfl ?_ | refine O_gF' rfl rfl ?_ | refine O_gEq rfl ?_ | refine O_gNe rfl ?_ | refine O_gS rfl (fun _ => ?_) (fun _ => ?_)) | ((with_reducible show VD _ _ _ _ _ _ _); first | refine D_step rfl ?_ | refine D_nil' ?_ | refine D_gT' rfl ?_ | refine D_gU' rfl ?_ | refine D_gF' rfl rfl ?_ | refine D_gS rfl (fun _ => ?_) (fun _ => ?_))
def plP (s w more : List UInt8) (n : Int) : EX → EC → St → Prop := fun x e st => (x = .exit 0 ∧ e = ecOf [(2, .ptr 0 0)] ∧ (st = A0 ∨ ∃ q, st = A1 z5 q) ∧ ∀ k, 1 ≤ k → k ≤ 6 → wordL k = w → ¬ acc (cand k n more) s) ∨ (x = .ret ∧ ∃ k, 1 ≤ k ∧ k ≤ 6 ∧ wordL k = w ∧ acc (cand k n more) s ∧ e = ecOf [(2, .ptr 0 0), (3, .bool true)] ∧ st = A1 (cells (cand k n more)) (cells (cand k n more)))
set_option maxHeartbeats 4000000 in
theorem match_step {s w more : List UInt8} {n : Int} (hn : R64 n) (hm : more.length ≤ 140737488355328) {kd : Int} (h1 : 1 ≤ kd) (hk : kd ≤ 6) (hw0 : wordL kd = w)
    (hi : ¬ acc (cand kd n more) s → V T (PE (plP s w more n)) [.code (.loop lp_script_ParseLine_0)] .normal (ecOf [(0, .str s), (2, .ptr 0 0), (4, .str w), (8, .str more), (10, .int .i64 n), (12, .int .i64 (kd + 1))]) (A1 z5 (cells (cand kd n more)))) :
    V T (PE (plP s w more n)) [.code (.loop lp_script_ParseLine_0)] .normal (ecOf [(0, .str s), (2, .ptr 0 0), (4, .str w), (8, .str more), (10, .int .i64 n), (12, .int .i64 kd)]) A0 := by
  have hw := run_word kd
  rw [hw0] at hw
  have hp := run_Parse (s := more) (by omega)
  have hpr := parT_r more
  have hwr : IntKind.i64.wrap (kd + 1) = kd + 1 := by rw [wrap_i64]; omega
  unfold two at hp
  have hne : PV.bool (!decide (w = w)) = PV.bool false := ndec_is rfl
  by_cases h6 : kd = 6
  · subst h6
    have hc : cand 6 n more = ⟨6, 0, [], n, (parT more).1⟩ := rfl
    have hln := run_Line (k := 6) (se := 0) (t := []) (to := n) (ke := (parT more).1) (by decide) hn hpr (by simp)
    rw [hc] at hi
    have ha := Classical.em (acc ⟨6, 0, [], n, (parT more).1⟩ s)
    have fin := fun h2 h3 => (.inr ⟨rfl, 6, h1, hk, hw0, ⟨h2, h3⟩, rfl, rfl⟩ : plP s w more n .ret (ecOf [(2, .ptr 0 0), (3, .bool true)]) (A1 (cells (cand 6 n more)) (cells (cand 6 n more))))
    rw [hc] at fin
    unfold acc at ha fin hi
    generalize parT more = pm at *
    generalize lineR ⟨6, 0, [], n, pm.1⟩ = L at *
    unfold twoS at hln
    have plk := pl_k5 6 0 [] n pm.1
    by_cases g1 : L.2 = 0
    · by_cases g2 : L.1 = s
      · have hf := fin g1 g2
        refine V_unroll ?_
        repeat' first | ((with_reducible show V _ _ _ _ _ _); first | refine V_out [(2, .ptr 0 0), (3, .bool true)] rfl ⟨rfl, rfl, trivial⟩ hf | refine V_O rfl ?_ | refine V_cT rfl rfl ?_ | refine V_cF rfl rfl ?_ | refine V_cEq rfl rfl ?_ | refine V_cNe rfl rfl ?_ | refine V_cB rfl rfl (fun _ => ?_) (fun _ => ?_) | refine V_fA rfl rfl ?_ | refine V_fAN rfl rfl ?_ | refine V_D rfl ?_) | ((with_reducible show VO _ _ _ _ _ _ _); first | refine O_cA rfl rfl hw ?_ | refine O_is hne rfl ?_ | refine O_cA rfl rfl hp ?_ | refine O_cA rfl rfl hln ?_ | refine O_is (dec_is g1) rfl ?_ | refine O_is (dec_is g2) rfl ?_ | refine O_step rfl ?_ | refine O_stepL rfl ?_ | refine O_nil' ?_ | refine O_gT' rfl ?_ | refine O_gU' rfl ?_ | refine O_gF' rfl rfl ?_ | refine O_gEq rfl ?_ | refine O_gNe rfl ?_ | refine O_gS rfl (fun _ => ?_) (fun _ => ?_)) | ((with_reducible show VD _ _ _ _ _ _ _); first | refine D_step rfl ?_ | refine D_nil' ?_ | refine D_gT' rfl ?_ | refine D_gU' rfl ?_ | refine D_gF' rfl rfl ?_ | refine D_gS rfl (fun _ => ?_) (fun _ => ?_))
      · have hi' := hi (fun h => g2 h.2)
        refine V_unroll ?_
        repeat' first | ((with_reducible show V _ _ _ _ _ _); first | refine V_re rfl hi' ⟨rfl, rfl, rfl, rfl, rfl, some_int hwr, trivial⟩ | refine V_O rfl ?_ | refine V_cT rfl rfl ?_ | refine V_cF rfl rfl ?_ | refine V_cEq rfl rfl ?_ | refine V_cNe rfl rfl ?_ | refine V_cB rfl rfl (fun _ => ?_) (fun _ => ?_) | refine V_fA rfl rfl ?_ | refine V_fAN rfl rfl ?_ | refine V_D rfl ?_) | ((with_reducible show VO _ _ _ _ _ _ _); first | refine O_cA rfl rfl hw ?_ | refine O_is hne rfl ?_ | refine O_cA rfl rfl hp ?_ | refine O_cA rfl rfl hln ?_ | refine O_is (dec_is g1) rfl ?_ | refine O_is (dec_not g2) rfl ?_ | refine O_step rfl ?_ | refine O_stepL rfl ?_ | refine O_nil' ?_ | refine O_gT' rfl ?_ | refine O_gU' rfl ?_ | refine O_gF' rfl rfl ?_ | refine O_gEq rfl ?_ | refine O_gNe rfl ?_ | refine O_gS rfl (fun _ => ?_) (fun _ => ?_)) | ((with_reducible show VD _ _ _ _ _ _ _); first | refine D_step rfl ?_ | refine D_nil' ?_ | refine D_gT' rfl ?_ | refine D_gU' rfl ?_ | refine D_gF' rfl rfl ?_ | refine D_gS rfl (fun _ => ?_) (fun _ => ?_))
    · have hi' := hi (fun h => g1 h.1)
      refine V_unroll ?_
      repeat' first | ((with_reducible show V _ _ _ _ _ _); first | refine V_re rfl hi' ⟨rfl, rfl, rfl, rfl, rfl, some_int hwr, trivial⟩ | refine V_O rfl ?_ | refine V_cT rfl rfl ?_ | refine V_cF rfl rfl ?_ | refine V_cEq rfl rfl ?_ | refine V_cNe rfl rfl ?_ | refine V_cB rfl rfl (fun _ => ?_) (fun _ => ?_) | refine V_fA rfl rfl ?_ | refine V_fAN rfl rfl ?_ | refine V_D rfl ?_) | ((with_reducible show VO _ _ _ _ _ _ _); first | refine O_cA rfl rfl hw ?_ | refine O_is hne rfl ?_ | refine O_cA rfl rfl hp ?_ | refine O_cA rfl rfl hln ?_ | refine O_is (dec_not g1) rfl ?_ | refine O_step rfl ?_ | refine O_stepL rfl ?_ | refine O_nil' ?_ | refine O_gT' rfl ?_ | refine O_gU' rfl ?_ | refine O_gF' rfl rfl ?_ | refine O_gEq rfl ?_ | refine O_gNe rfl ?_ | refine O_gS rfl (fun _ => ?_) (fun _ => ?_)) | ((with_reducible show VD _ _ _ _ _ _ _); first | refine D_step rfl ?_ | refine D_nil' ?_ | refine D_gT' rfl ?_ | refine D_gU' rfl ?_ | refine D_gF' rfl rfl ?_ | refine D_gS rfl (fun _ => ?_) (fun _ => ?_))
  · have hc : cand kd n more = ⟨kd, n, more, 0, 0⟩ := by unfold cand; rw [if_neg h6]
    have hln := run_Line (k := kd) (se := n) (t := more) (to := 0) (ke := 0) hn (by decide) (by decide) hm
    rw [hc] at hi
    have fin := fun h2 h3 => (.inr ⟨rfl, kd, h1, hk, hw0, ⟨h2, h3⟩, rfl, rfl⟩ : plP s w more n .ret (ecOf [(2, .ptr 0 0), (3, .bool true)]) (A1 (cells (cand kd n more)) (cells (cand kd n more))))
    rw [hc] at fin
    unfold acc at fin hi
    generalize lineR ⟨kd, n, more, 0, 0⟩ = L at *
    unfold twoS at hln
    have plk := pl_k5 kd n more 0 0
    by_cases g1 : L.2 = 0
    · by_cases g2 : L.1 = s
      · have hf := fin g1 g2
        refine V_unroll ?_
        repeat' first | ((with_reducible show V _ _ _ _ _ _); first | refine V_out [(2, .ptr 0 0), (3, .bool true)] rfl ⟨rfl, rfl, trivial⟩ hf | refine V_O rfl ?_ | refine V_cT rfl rfl ?_ | refine V_cF rfl rfl ?_ | refine V_cEq rfl rfl ?_ | refine V_cNe rfl rfl ?_ | refine V_cB rfl rfl (fun _ => ?_) (fun _ => ?_) | refine V_fA rfl rfl ?_ | refine V_fAN rfl rfl ?_ | refine V_D rfl ?_) | ((with_reducible show VO _ _ _ _ _ _ _); first | refine O_is (dec_is hk) rfl ?_ | refine O_cA rfl rfl hw ?_ | refine O_is hne rfl ?_ | refine O_is (dec_not h6) rfl ?_ | refine O_cA rfl rfl hln ?_ | refine O_is (dec_is g1) rfl ?_ | refine O_is (dec_is g2) rfl ?_ | refine O_step rfl ?_ | refine O_stepL rfl ?_ | refine O_nil' ?_ | refine O_gT' rfl ?_ | refine O_gU' rfl ?_ | refine O_gF' rfl rfl ?_ | refine O_gEq rfl ?_ | refine O_gNe rfl ?_ | refine O_gS rfl (fun _ => ?_) (fun _ => ?_)) | ((with_reducible show VD _ _ _ _ _ _ _); first | refine D_step rfl ?_ | refine D_nil' ?_ | refine D_gT' rfl ?_ | refine D_gU' rfl ?_ | refine D_gF' rfl rfl ?_ | refine D_gS rfl (fun _ => ?_) (fun _ => ?_))
      · have hi' := hi (fun h => g2 h.2)
        refine V_unroll ?_
        repeat' first | ((with_reducible show V _ _ _ _ _ _); first | refine V_re rfl hi' ⟨rfl, rfl, rfl, rfl, rfl, some_int hwr, trivial⟩ | refine V_O rfl ?_ | refine V_cT rfl rfl ?_ | refine V_cF rfl rfl ?_ | refine V_cEq rfl rfl ?_ | refine V_cNe rfl rfl ?_ | refine V_cB rfl rfl (fun _ => ?_) (fun _ => ?_) | refine V_fA rfl rfl ?_ | refine V_fAN rfl rfl ?_ | refine V_D rfl ?_) | ((with_reducible show VO _ _ _ _ _ _ _); first | refine O_is (dec_is hk) rfl ?_ | refine O_cA rfl rfl hw ?_ | refine O_is hne rfl ?_ | refine O_is (dec_not h6) rfl ?_ | refine O_cA rfl rfl hln ?_ | refine O_is (dec_is g1) rfl ?_ | refine O_is (dec_not g2) rfl ?_ | refine O_step rfl ?_ | refine O_stepL rfl ?_ | refine O_nil' ?_ | refine O_gT' rfl ?_ | refine O_gU' rfl ?_ | refine O_gF' rfl rfl ?_ | refine O_gEq rfl ?_ | refine O_gNe rfl ?_ | refine O_gS rfl (fun _ => ?_) (fun _ => ?_)) | ((with_reducible show VD _ _ _ _ _ _ _); first | refine D_step rfl ?_ | refine D_nil' ?_ | refine D_gT' rfl ?_ | refine D_gU' rfl ?_ | refine D_gF' rfl rfl ?_ | refine D_gS rfl (fun _ => ?_) (fun _ => ?_))
    · have hi' := hi (fun h => g1 h.1)
      refine V_unroll ?_
      repeat' first | ((with_reducible show V _ _ _ _ _ _); first | refine V_re rfl hi' ⟨rfl, rfl, rfl, rfl, rfl, some_int hwr, trivial⟩ | refine V_O rfl ?_ | refine V_cT rfl rfl ?_ | refine V_cF rfl rfl ?_ | refine V_cEq rfl rfl ?_ | refine V_cNe rfl rfl ?_ | refine V_cB rfl rfl (fun _ => ?_) (fun _ => ?_) | refine V_fA rfl rfl ?_ | refine V_fAN rfl rfl ?_ | refine V_D rfl ?_) | ((with_reducible show VO _ _ _ _ _ _ _); first | refine O_is (dec_is hk) rfl ?_ | refine O_cA rfl rfl hw ?_ | refine O_is hne rfl ?_ | refine O_is (dec_not h6) rfl ?_ | refine O_cA rfl rfl hln ?_ | refine O_is (dec_not g1) rfl ?_ | refine O_step rfl ?_ | refine O_stepL rfl ?_ | refine O_nil' ?_ | refine O_gT' rfl ?_ | refine O_gU' rfl ?_ | refine O_gF' rfl rfl ?_ | refine O_gEq rfl ?_ | refine O_gNe rfl ?_ | refine O_gS rfl (fun _ => ?_) (fun _ => ?_)) | ((with_reducible show VD _ _ _ _ _ _ _); first | refine D_step rfl ?_ | refine D_nil' ?_ | refine D_gT' rfl ?_ | refine D_gU' rfl ?_ | refine D_gF' rfl rfl ?_ | refine D_gS rfl (fun _ => ?_) (fun _ => ?_))
theorem pl_loop {s w more : List UInt8} {n : Int} (hn : R64 n) (hm : more.length ≤ 140737488355328) : ∀ (m : Nat) (kd : Int), kd + m = 7 → 1 ≤ kd → (∀ j, 1 ≤ j → j < kd → wordL j ≠ w) →
    V T (PE (plP s w more n)) [.code (.loop lp_script_ParseLine_0)] .normal (ecOf [(0, .str s), (2, .ptr 0 0), (4, .str w), (8, .str more), (10, .int .i64 n), (12, .int .i64 kd)]) A0 := by
  intro m
  induction m with
  | zero =>
    intro kd h7 h1 hno
    exact tail_loop s w more n A0 (.inl ⟨rfl, rfl, .inl rfl, fun k k1 k2 k3 => absurd k3 (hno k k1 (by omega))⟩) 0 kd h7 h1 (fun j j1 j2 => hno j (by omega) (by omega))
  | succ m ih =>
    intro kd h7 h1 hno
    have hk : kd ≤ 6 := by omega
    by_cases hw : wordL kd = w
    · refine match_step hn hm h1 hk hw fun hna => ?_
      have q1 : ∀ k, 1 ≤ k → k ≤ 6 → wordL k = w → ¬ acc (cand k n more) s := fun k k1 k2 k3 => by
        have := wordL_inj ⟨k1, k2⟩ ⟨h1, hk⟩ (k3.trans hw.symm)
        rw [this]
        exact hna
      have q2 : ∀ j, kd + 1 ≤ j → j ≤ 6 → wordL j ≠ w := fun j j1 j2 hj => by
        have := wordL_inj ⟨by omega, j2⟩ ⟨h1, hk⟩ (hj.trans hw.symm)
        omega
      exact tail_loop s w more n _ (.inl ⟨rfl, rfl, .inr ⟨_, rfl⟩, q1⟩) m (kd + 1) (by omega) (by omega) q2
    · have hno' : ∀ j, 1 ≤ j → j < kd + 1 → wordL j ≠ w := fun j j1 j2 => by
        by_cases e : j = kd
        · rw [e]; exact hw
        · exact hno j j1 (by omega)
      have hi := ih (kd + 1) (by omega) (by omega) hno'
      have hwd := run_word kd
      generalize wordL kd = W at hwd hw
      have hwr : IntKind.i64.wrap (kd + 1) = kd + 1 := by rw [wrap_i64]; omega
      refine V_unroll ?_
      repeat' first | ((with_reducible show V _ _ _ _ _ _); first | refine V_re rfl hi ⟨rfl, rfl, rfl, rfl, rfl, some_int hwr, trivial⟩ | refine V_O rfl ?_ | refine V_cT rfl rfl ?_ | refine V_cF rfl rfl ?_ | refine V_cEq rfl rfl ?_ | refine V_cNe rfl rfl ?_ | refine V_cB rfl rfl (fun _ => ?_) (fun _ => ?_) | refine V_fA rfl rfl ?_ | refine V_fAN rfl rfl ?_ | refine V_D rfl ?_) | ((with_reducible show VO _ _ _ _ _ _ _); first | refine O_is (dec_is hk) rfl ?_ | refine O_cA rfl rfl hwd ?_ | refine O_is (ndec_not hw) rfl ?_ | refine O_step rfl ?_ | refine O_nil' ?_ | refine O_gT' rfl ?_ | refine O_gU' rfl ?_ | refine O_gF' rfl rfl ?_ | refine O_gEq rfl ?_ | refine O_gNe rfl ?_ | refine O_gS rfl (fun _ => ?_) (fun _ => ?_)) | ((with_reducible show VD _ _ _ _ _ _ _); first | refine D_step rfl ?_ | refine D_nil' ?_ | refine D_gT' rfl ?_ | refine D_gU' rfl ?_ | refine D_gF' rfl rfl ?_ | refine D_gS rfl (fun _ => ?_) (fun _ => ?_))
theorem cutT_P (s : List UInt8) : ∃ b, cutT 32 s = .tuple [.str (cutP s).1, .str (cutP s).2, .bool b] := by
  unfold cutT cutP
  cases cutB 32 s with
  | none => exact ⟨_, rfl⟩
  | some p => exact ⟨_, rfl⟩
theorem cutP_len (s : List UInt8) : (cutP s).1.length ≤ s.length ∧ (cutP s).2.length ≤ s.length := by
  unfold cutP
  cases h : cutB 32 s with
  | none => simp
  | some p =>
    obtain ⟨x, y⟩ := p
    obtain ⟨h1, -⟩ := cutB_some h
    rw [h1]
    simp
    omega
def Says (s : List UInt8) (o : Option Cm) : Prop :=
  ((parT (cutP (cutP s).2).1).2 ≠ 0 ∧ o = none) ∨ ((parT (cutP (cutP s).2).1).2 = 0 ∧ ((o = none ∧ ∀ k, 1 ≤ k → k ≤ 6 → wordL k = (cutP s).1 → ¬ acc (cand k (parT (cutP (cutP s).2).1).1 (cutP (cutP s).2).2) s) ∨ ∃ k, 1 ≤ k ∧ k ≤ 6 ∧ wordL k = (cutP s).1 ∧ acc (cand k (parT (cutP (cutP s).2).1).1 (cutP (cutP s).2).2) s ∧ o = some (cand k (parT (cutP (cutP s).2).1).1 (cutP (cutP s).2).2)))
theorem Says.inj {s : List UInt8} {a b : Option Cm} (ha : Says s a) (hb : Says s b) : a = b := by
  rcases ha with ⟨a1, rfl⟩ | ⟨a1, ⟨rfl, a2⟩ | ⟨k, k1, k2, k3, k4, rfl⟩⟩
  · rcases hb with ⟨b1, rfl⟩ | ⟨b1, _⟩
    · rfl
    · exact absurd b1 a1
  · rcases hb with ⟨b1, rfl⟩ | ⟨b1, ⟨rfl, b2⟩ | ⟨k, k1, k2, k3, k4, rfl⟩⟩
    · rfl
    · rfl
    · exact absurd k4 (a2 k k1 k2 k3)
  · rcases hb with ⟨b1, rfl⟩ | ⟨b1, ⟨rfl, b2⟩ | ⟨j, j1, j2, j3, j4, rfl⟩⟩
    · exact absurd a1 b1
    · exact absurd k4 (b2 k k1 k2 k3)
    · rw [wordL_inj ⟨k1, k2⟩ ⟨j1, j2⟩ (k3.trans j3.symm)]
set_option maxHeartbeats 4000000 in
theorem run_ParseLine {s : List UInt8} (hs : s.length ≤ 140737488355328) : ∃ o, T.R (.call n_script_ParseLine [.str s] (twoC o)) ∧ Says s o := by
  have hc1 := run_Cut s 32 (by omega)
  obtain ⟨b1, e1⟩ := cutT_P s
  have hl1 := cutP_len s
  have hc2 := run_Cut (cutP s).2 32 (by omega)
  obtain ⟨b2, e2⟩ := cutT_P (cutP s).2
  have hl2 := cutP_len (cutP s).2
  rw [e1] at hc1
  rw [e2] at hc2
  have hp := run_Parse (s := (cutP (cutP s).2).1) (by omega)
  have hpr := parT_r (cutP (cutP s).2).1
  have hm : (cutP (cutP s).2).2.length ≤ 140737488355328 := by omega
  unfold Says
  generalize (cutP s).1 = w at *
  generalize cutP (cutP s).2 = q at *
  obtain ⟨first, more⟩ := q
  simp only at *
  generalize parT first = pm at *
  obtain ⟨n, er⟩ := pm
  unfold two at hp
  simp only at *
  have key : ∃ r, T.R (.call n_script_ParseLine [.str s] r) ∧ ∃ o, r = twoC o ∧ ((er ≠ 0 ∧ o = none) ∨ (er = 0 ∧ ((o = none ∧ ∀ k, 1 ≤ k → k ≤ 6 → wordL k = w → ¬ acc (cand k n more) s) ∨ ∃ k, 1 ≤ k ∧ k ≤ 6 ∧ wordL k = w ∧ acc (cand k n more) s ∧ o = some (cand k n more)))) := by
    by_cases g1 : er = 0
    · have hl := pl_loop (s := s) (w := w) hpr hm 6 1 rfl (by omega) (fun j j1 j2 => by omega)
      refine call_VQ rfl rfl ?_
      repeat' first | ((with_reducible show V _ _ _ _ _ _); first | refine V_cutTo rfl hl ⟨rfl, rfl, rfl, rfl, rfl, rfl, trivial⟩ ?_ | refine V_O rfl ?_ | refine V_cT rfl rfl ?_ | refine V_cF rfl rfl ?_ | refine V_cEq rfl rfl ?_ | refine V_cNe rfl rfl ?_ | refine V_cB rfl rfl (fun _ => ?_) (fun _ => ?_) | refine V_fA rfl rfl ?_ | refine V_fAN rfl rfl ?_ | refine V_D rfl ?_) | ((with_reducible show VO _ _ _ _ _ _ _); first | refine O_cA rfl rfl hc1 ?_ | refine O_cA rfl rfl hc2 ?_ | refine O_cA rfl rfl hp ?_ | refine O_is (ndec_is g1) rfl ?_ | refine O_step rfl ?_ | refine O_stepL rfl ?_ | refine O_nil' ?_ | refine O_gT' rfl ?_ | refine O_gU' rfl ?_ | refine O_gF' rfl rfl ?_ | refine O_gEq rfl ?_ | refine O_gNe rfl ?_ | refine O_gS rfl (fun _ => ?_) (fun _ => ?_)) | ((with_reducible show VD _ _ _ _ _ _ _); first | refine D_step rfl ?_ | refine D_nil' ?_ | refine D_gT' rfl ?_ | refine D_gU' rfl ?_ | refine D_gF' rfl rfl ?_ | refine D_gS rfl (fun _ => ?_) (fun _ => ?_))
      rintro x e' st' (⟨rfl, rfl, rfl | ⟨q, rfl⟩, hno⟩ | ⟨rfl, k, k1, k2, k3, k4, rfl, rfl⟩)
      · repeat' first | ((with_reducible show V _ _ _ _ _ _); first | refine V_O rfl ?_ | refine V_cT rfl rfl ?_ | refine V_cF rfl rfl ?_ | refine V_cEq rfl rfl ?_ | refine V_cNe rfl rfl ?_ | refine V_cB rfl rfl (fun _ => ?_) (fun _ => ?_) | refine V_fA rfl rfl ?_ | refine V_fAN rfl rfl ?_ | refine V_D rfl ?_) | ((with_reducible show VO _ _ _ _ _ _ _); first | refine O_stepL rfl ?_ | refine O_step rfl ?_ | refine O_nil' ?_ | refine O_gT' rfl ?_ | refine O_gU' rfl ?_ | refine O_gF' rfl rfl ?_ | refine O_gEq rfl ?_ | refine O_gNe rfl ?_ | refine O_gS rfl (fun _ => ?_) (fun _ => ?_)) | ((with_reducible show VD _ _ _ _ _ _ _); first | refine D_step rfl ?_ | refine D_nil' ?_ | refine D_gT' rfl ?_ | refine D_gU' rfl ?_ | refine D_gF' rfl rfl ?_ | refine D_gS rfl (fun _ => ?_) (fun _ => ?_))
        exact ⟨none, rfl, .inr ⟨g1, .inl ⟨rfl, hno⟩⟩⟩
      · repeat' first | ((with_reducible show V _ _ _ _ _ _); first | refine V_O rfl ?_ | refine V_cT rfl rfl ?_ | refine V_cF rfl rfl ?_ | refine V_cEq rfl rfl ?_ | refine V_cNe rfl rfl ?_ | refine V_cB rfl rfl (fun _ => ?_) (fun _ => ?_) | refine V_fA rfl rfl ?_ | refine V_fAN rfl rfl ?_ | refine V_D rfl ?_) | ((with_reducible show VO _ _ _ _ _ _ _); first | refine O_stepL rfl ?_ | refine O_step rfl ?_ | refine O_nil' ?_ | refine O_gT' rfl ?_ | refine O_gU' rfl ?_ | refine O_gF' rfl rfl ?_ | refine O_gEq rfl ?_ | refine O_gNe rfl ?_ | refine O_gS rfl (fun _ => ?_) (fun _ => ?_)) | ((with_reducible show VD _ _ _ _ _ _ _); first | refine D_step rfl ?_ | refine D_nil' ?_ | refine D_gT' rfl ?_ | refine D_gU' rfl ?_ | refine D_gF' rfl rfl ?_ | refine D_gS rfl (fun _ => ?_) (fun _ => ?_))
        exact ⟨none, rfl, .inr ⟨g1, .inl ⟨rfl, hno⟩⟩⟩
      · have plk := pl_cells (cand k n more)
        repeat' first | ((with_reducible show V _ _ _ _ _ _); first | refine V_O rfl ?_ | refine V_cT rfl rfl ?_ | refine V_cF rfl rfl ?_ | refine V_cEq rfl rfl ?_ | refine V_cNe rfl rfl ?_ | refine V_cB rfl rfl (fun _ => ?_) (fun _ => ?_) | refine V_fA rfl rfl ?_ | refine V_fAN rfl rfl ?_ | refine V_D rfl ?_) | ((with_reducible show VO _ _ _ _ _ _ _); first | refine O_step rfl ?_ | refine O_nil' ?_ | refine O_gT' rfl ?_ | refine O_gU' rfl ?_ | refine O_gF' rfl rfl ?_ | refine O_gEq rfl ?_ | refine O_gNe rfl ?_ | refine O_gS rfl (fun _ => ?_) (fun _ => ?_)) | ((with_reducible show VD _ _ _ _ _ _ _); first | refine D_step rfl ?_ | refine D_nil' ?_ | refine D_gT' rfl ?_ | refine D_gU' rfl ?_ | refine D_gF' rfl rfl ?_ | refine D_gS rfl (fun _ => ?_) (fun _ => ?_))
        exact ⟨some _, rfl, .inr ⟨g1, .inr ⟨k, k1, k2, k3, k4, rfl⟩⟩⟩
    · refine call_VQ rfl rfl ?_
      repeat' first | ((with_reducible show V _ _ _ _ _ _); first | refine V_O rfl ?_ | refine V_cT rfl rfl ?_ | refine V_cF rfl rfl ?_ | refine V_cEq rfl rfl ?_ | refine V_cNe rfl rfl ?_ | refine V_cB rfl rfl (fun _ => ?_) (fun _ => ?_) | refine V_fA rfl rfl ?_ | refine V_fAN rfl rfl ?_ | refine V_D rfl ?_) | ((with_reducible show VO _ _ _ _ _ _ _); first | refine O_cA rfl rfl hc1 ?_ | refine O_cA rfl rfl hc2 ?_ | refine O_cA rfl rfl hp ?_ | refine O_is (ndec_not g1) rfl ?_ | refine O_step rfl ?_ | refine O_stepL rfl ?_ | refine O_nil' ?_ | refine O_gT' rfl ?_ | refine O_gU' rfl ?_ | refine O_gF' rfl rfl ?_ | refine O_gEq rfl ?_ | refine O_gNe rfl ?_ | refine O_gS rfl (fun _ => ?_) (fun _ => ?_)) | ((with_reducible show VD _ _ _ _ _ _ _); first | refine D_step rfl ?_ | refine D_nil' ?_ | refine D_gT' rfl ?_ | refine D_gU' rfl ?_ | refine D_gF' rfl rfl ?_ | refine D_gS rfl (fun _ => ?_) (fun _ => ?_))
      exact ⟨none, rfl, .inl ⟨g1, rfl⟩⟩
  obtain ⟨r, hr, o, rfl, ho⟩ := key
  exact ⟨o, hr, ho⟩
end Go.Proofs.YtbeaalkfakjoiaaDoor
set_option linter.unusedVariables false
set_option linter.unusedSimpArgs false
namespace Go.Proofs.YtbeaalkfakjoiaaDoor
open Go Go.AM Go.RowKit
open Go.Lib in
theorem itoa_no {n : Int} : (32 : UInt8) ∉ itoa n := by
  have key : ∀ u : Nat, (32 : UInt8) ∉ decDigits u := fun u h => by
    have := ((dec_good u).2.1 32 h).1
    exact absurd this (by decide)
  unfold itoa
  split
  · intro h
    rcases List.mem_cons.1 h with h | h
    · exact absurd h (by decide)
    · exact key _ h
  · exact key _
theorem wordL_no (k : Int) : (32 : UInt8) ∉ wordL k := by
  unfold wordL
  split; decide
  split; decide
  split; decide
  split; decide
  split; decide
  split; decide
  decide
def bodyC (c : Cm) : List UInt8 := if c.k = 6 then Lib.itoa c.to ++ 32 :: Lib.itoa c.ke else if isAsk c.k = true then Lib.itoa c.se ++ 32 :: c.t else Lib.itoa c.se
theorem acc_core {c : Cm} {s : List UInt8} (h : acc c s) : (1 ≤ c.k ∧ c.k ≤ 6) ∧ keepC c = c ∧ cutB 32 s = some (wordL c.k, bodyC c) := by
  obtain ⟨h1, h2⟩ := h
  unfold lineR at h1 h2
  split at h1
  · exact absurd h1 (by decide)
  · rename_i g1
    rw [if_neg g1] at h2
    split at h1
    · exact absurd h1 (by decide)
    · rename_i g2
      rw [if_neg g2] at h2
      split at h1
      · exact absurd h1 (by decide)
      · rename_i g3
        rw [if_neg g3] at h2
        split at h1
        · exact absurd h1 (by decide)
        · rename_i g4
          rw [if_neg g4] at h2
          split at h1
          · exact absurd h1 (by decide)
          · rename_i g5
            rw [if_neg g5] at h2
            have hk : 1 ≤ c.k ∧ c.k ≤ 6 := by
              refine ⟨?_, ?_⟩
              · rcases Int.lt_or_le c.k 1 with h | h
                · exact absurd (wordL_out (.inl h)) g1
                · exact h
              · rcases Int.lt_or_le 6 c.k with h | h
                · exact absurd (wordL_out (.inr h)) g1
                · exact h
            refine ⟨hk, eqC_iff.1 (by simpa using g2), ?_⟩
            have hl : lineC c = wordL c.k ++ 32 :: bodyC c := by
              unfold lineC bodyC
              split
              · simp
              · split
                · simp
                · simp
            have h3 : lineC c = s := h2
            rw [← h3, hl]
            exact cutB_pre _ _ (wordL_no _)
theorem says_of {c : Cm} {s : List UInt8} (h : acc c s) (h1 : R64 c.se) (h2 : R64 c.to) (h3 : R64 c.ke) : Says s (some c) := by
  obtain ⟨hk, hkeep, hcut⟩ := acc_core h
  have hP : cutP s = (wordL c.k, bodyC c) := by unfold cutP; rw [hcut]
  unfold Says
  rw [hP]
  obtain ⟨k, se, t, to, ke⟩ := c
  simp only at *
  by_cases h6 : k = 6
  · subst h6
    have hb : cutP (bodyC ⟨6, se, t, to, ke⟩) = (Lib.itoa to, Lib.itoa ke) := by
      unfold cutP bodyC
      rw [if_pos rfl, cutB_pre _ _ itoa_no]
    rw [hb]
    simp only [itoa_good h2, itoa_good h3]
    have he : cand 6 to (Lib.itoa ke) = ⟨6, se, t, to, ke⟩ := by
      rw [← hkeep]
      unfold cand keepC
      rw [if_pos rfl, if_pos rfl, itoa_good h3]
    exact .inr ⟨by trivial, .inr ⟨6, by omega, by omega, rfl, by rw [he]; exact h, by rw [he]⟩⟩
  · by_cases ha : isAsk k = true
    · have hb : cutP (bodyC ⟨k, se, t, to, ke⟩) = (Lib.itoa se, t) := by
        unfold cutP bodyC
        rw [if_neg h6, if_pos ha, cutB_pre _ _ itoa_no]
      rw [hb]
      simp only [itoa_good h1]
      have he : cand k se t = ⟨k, se, t, to, ke⟩ := by
        rw [← hkeep]
        unfold cand keepC
        rw [if_neg h6, if_neg h6, if_pos ha]
      exact .inr ⟨by trivial, .inr ⟨k, hk.1, hk.2, rfl, by rw [he]; exact h, by rw [he]⟩⟩
    · have hb : cutP (bodyC ⟨k, se, t, to, ke⟩) = (Lib.itoa se, []) := by
        unfold cutP bodyC
        rw [if_neg h6, if_neg ha, cutB_nil _ itoa_no]
      rw [hb]
      simp only [itoa_good h1]
      have he : cand k se [] = ⟨k, se, t, to, ke⟩ := by
        rw [← hkeep]
        unfold cand keepC
        rw [if_neg h6, if_neg h6, if_neg ha]
      exact .inr ⟨by trivial, .inr ⟨k, hk.1, hk.2, rfl, by rw [he]; exact h, by rw [he]⟩⟩
theorem cutP_some {s x y : List UInt8} (h : cutB 32 s = some (x, y)) : cutP s = (x, y) := by unfold cutP; rw [h]
theorem acc_more {s : List UInt8} {k n : Int} (h : acc (cand k n (cutP (cutP s).2).2) s) : (cutB 32 s).isSome = true ∧ (cutB 32 (cutP s).2).isSome = (isAsk k || decide (k = 6)) ∧ (k = 6 → (parT (cutP (cutP s).2).2).2 = 0) := by
  obtain ⟨hk, hkeep, hcut⟩ := acc_core h
  have hck : (cand k n (cutP (cutP s).2).2).k = k := by
    unfold cand
    split
    · rename_i e; exact e.symm
    · rfl
  rw [hck] at hcut
  have hP : (cutP s).2 = bodyC (cand k n (cutP (cutP s).2).2) := congrArg Prod.snd (cutP_some hcut)
  refine ⟨by rw [hcut]; rfl, ?_, fun h6 => ?_⟩
  · generalize hm : (cutP (cutP s).2).2 = more at *
    rw [hP]
    by_cases h6 : k = 6
    · subst h6
      have : bodyC (cand 6 n more) = Lib.itoa n ++ 32 :: Lib.itoa (parT more).1 := rfl
      rw [this, cutB_pre _ _ itoa_no]
      rfl
    · have hc : cand k n more = ⟨k, n, more, 0, 0⟩ := by unfold cand; rw [if_neg h6]
      rw [hc, decide_eq_false h6, Bool.or_false]
      unfold bodyC
      by_cases ha : isAsk k = true
      · rw [if_neg h6, if_pos ha, cutB_pre _ _ itoa_no, ha]
        rfl
      · rw [if_neg h6, if_neg ha, cutB_nil _ itoa_no]
        simp only [Option.isSome_none]
        simpa using ha
  · subst h6
    have hpr := parT_r (cutP (cutP s).2).2
    generalize hm : (cutP (cutP s).2).2 = more at *
    have hb : bodyC (cand 6 n more) = Lib.itoa n ++ 32 :: Lib.itoa (parT more).1 := rfl
    rw [hP, hb] at hm
    unfold cutP at hm
    rw [cutB_pre _ _ itoa_no] at hm
    have hm' : Lib.itoa (parT more).1 = more := hm
    have := itoa_good hpr
    rw [hm'] at this
    rw [this]
def kfin (w : List UInt8) : Nat → Int → Int → Int
  | 0, _, K => K
  | m + 1, kd, K => kfin w m (kd + 1) (if wordL kd = w then kd else K)
theorem kfin_spec (w : List UInt8) : ∀ (m : Nat) (kd K : Int), kd + m = 7 → 1 ≤ kd → ((K = 0 ∧ ∀ j, 1 ≤ j → j < kd → wordL j ≠ w) ∨ (1 ≤ K ∧ K ≤ 6 ∧ wordL K = w)) → ((kfin w m kd K = 0 ∧ ∀ j, 1 ≤ j → j ≤ 6 → wordL j ≠ w) ∨ (1 ≤ kfin w m kd K ∧ kfin w m kd K ≤ 6 ∧ wordL (kfin w m kd K) = w))
  | 0, kd, K, h7, h1, h => by
    rcases h with ⟨h, h2⟩ | h
    · exact .inl ⟨h, fun j j1 j2 => h2 j j1 (by omega)⟩
    · exact .inr h
  | m + 1, kd, K, h7, h1, h => by
    rw [kfin]
    refine kfin_spec w m (kd + 1) _ (by omega) (by omega) ?_
    by_cases hw : wordL kd = w
    · rw [if_pos hw]
      exact .inr ⟨h1, by omega, hw⟩
    · rw [if_neg hw]
      rcases h with ⟨h, h2⟩ | h
      · refine .inl ⟨h, fun j j1 j2 => ?_⟩
        by_cases e : j = kd
        · rw [e]; exact hw
        · exact h2 j j1 (by omega)
      · exact .inr h
theorem rpl_loop (s w rest : List UInt8) (is : Bool) : ∀ (m : Nat) (kd K : Int), kd + m = 7 → 1 ≤ kd →
    V T (PE fun x e st' => x = .exit 0 ∧ e = ecOf [(0, .str s), (2, .ptr 0 0), (5, .str rest), (6, .bool is), (7, .ptr 1 0)] ∧ st' = A1 z5 (k5 (kfin w m kd K) 0 [] 0 0)) [.code (.loop lp_rambleref25_ParseLine_0)] .normal (ecOf [(0, .str s), (2, .ptr 0 0), (4, .str w), (5, .str rest), (6, .bool is), (7, .ptr 1 0), (8, .int .i64 kd)]) (A1 z5 (k5 K 0 [] 0 0)) := by
  intro m
  induction m with
  | zero =>
    intro kd K hm h1
    have hk : ¬ kd ≤ 6 := by omega
    refine V_unroll ?_
    repeat' first | ((with_reducible show V _ _ _ _ _ _); first | refine V_out [(0, .str s), (2, .ptr 0 0), (5, .str rest), (6, .bool is), (7, .ptr 1 0)] rfl ⟨rfl, rfl, rfl, rfl, rfl, trivial⟩ ⟨rfl, rfl, rfl⟩ | refine V_O rfl ?_ | refine V_cT rfl rfl ?_ | refine V_cF rfl rfl ?_ | refine V_cEq rfl rfl ?_ | refine V_cNe rfl rfl ?_ | refine V_cB rfl rfl (fun _ => ?_) (fun _ => ?_) | refine V_fA rfl rfl ?_ | refine V_fAN rfl rfl ?_ | refine V_D rfl ?_) | ((with_reducible show VO _ _ _ _ _ _ _); first | refine O_is (dec_not hk) rfl ?_ | refine O_step rfl ?_ | refine O_nil' ?_ | refine O_gT' rfl ?_ | refine O_gU' rfl ?_ | refine O_gF' rfl rfl ?_ | refine O_gEq rfl ?_ | refine O_gNe rfl ?_ | refine O_gS rfl (fun _ => ?_) (fun _ => ?_)) | ((with_reducible show VD _ _ _ _ _ _ _); first | refine D_step rfl ?_ | refine D_nil' ?_ | refine D_gT' rfl ?_ | refine D_gU' rfl ?_ | refine D_gF' rfl rfl ?_ | refine D_gS rfl (fun _ => ?_) (fun _ => ?_))
  | succ m ih =>
    intro kd K hm h1
    have hk : kd ≤ 6 := by omega
    have hwd := run_rWord kd
    have hwr : IntKind.i64.wrap (kd + 1) = kd + 1 := by rw [wrap_i64]; omega
    rw [kfin]
    by_cases hw : wordL kd = w
    · rw [if_pos hw]
      have hi := ih (kd + 1) kd (by omega) (by omega)
      have hq := hw.symm
      generalize wordL kd = W at hwd hw hq
      refine V_unroll ?_
      repeat' first | ((with_reducible show V _ _ _ _ _ _); first | refine V_re rfl hi ⟨rfl, rfl, rfl, rfl, rfl, rfl, some_int hwr, trivial⟩ | refine V_O rfl ?_ | refine V_cT rfl rfl ?_ | refine V_cF rfl rfl ?_ | refine V_cEq rfl rfl ?_ | refine V_cNe rfl rfl ?_ | refine V_cB rfl rfl (fun _ => ?_) (fun _ => ?_) | refine V_fA rfl rfl ?_ | refine V_fAN rfl rfl ?_ | refine V_D rfl ?_) | ((with_reducible show VO _ _ _ _ _ _ _); first | refine O_is (dec_is hk) rfl ?_ | refine O_cA rfl rfl hwd ?_ | refine O_is (dec_is hq) rfl ?_ | refine O_step rfl ?_ | refine O_stepL rfl ?_ | refine O_nil' ?_ | refine O_gT' rfl ?_ | refine O_gU' rfl ?_ | refine O_gF' rfl rfl ?_ | refine O_gEq rfl ?_ | refine O_gNe rfl ?_ | refine O_gS rfl (fun _ => ?_) (fun _ => ?_)) | ((with_reducible show VD _ _ _ _ _ _ _); first | refine D_step rfl ?_ | refine D_nil' ?_ | refine D_gT' rfl ?_ | refine D_gU' rfl ?_ | refine D_gF' rfl rfl ?_ | refine D_gS rfl (fun _ => ?_) (fun _ => ?_))
    · rw [if_neg hw]
      have hi := ih (kd + 1) K (by omega) (by omega)
      have hq : ¬ w = wordL kd := fun e => hw e.symm
      generalize wordL kd = W at hwd hw hq
      refine V_unroll ?_
      repeat' first | ((with_reducible show V _ _ _ _ _ _); first | refine V_re rfl hi ⟨rfl, rfl, rfl, rfl, rfl, rfl, some_int hwr, trivial⟩ | refine V_O rfl ?_ | refine V_cT rfl rfl ?_ | refine V_cF rfl rfl ?_ | refine V_cEq rfl rfl ?_ | refine V_cNe rfl rfl ?_ | refine V_cB rfl rfl (fun _ => ?_) (fun _ => ?_) | refine V_fA rfl rfl ?_ | refine V_fAN rfl rfl ?_ | refine V_D rfl ?_) | ((with_reducible show VO _ _ _ _ _ _ _); first | refine O_is (dec_is hk) rfl ?_ | refine O_cA rfl rfl hwd ?_ | refine O_is (dec_not hq) rfl ?_ | refine O_step rfl ?_ | refine O_stepL rfl ?_ | refine O_nil' ?_ | refine O_gT' rfl ?_ | refine O_gU' rfl ?_ | refine O_gF' rfl rfl ?_ | refine O_gEq rfl ?_ | refine O_gNe rfl ?_ | refine O_gS rfl (fun _ => ?_) (fun _ => ?_)) | ((with_reducible show VD _ _ _ _ _ _ _); first | refine D_step rfl ?_ | refine D_nil' ?_ | refine D_gT' rfl ?_ | refine D_gU' rfl ?_ | refine D_gF' rfl rfl ?_ | refine D_gS rfl (fun _ => ?_) (fun _ => ?_))
end Go.Proofs.YtbeaalkfakjoiaaDoor
set_option linter.unusedVariables false
set_option linter.unusedSimpArgs false
namespace Go.Proofs.YtbeaalkfakjoiaaDoor
open Go Go.AM Go.RowKit
def linesB : List UInt8 → List (List UInt8)
  | [] => []
  | c :: s => if c = 10 then [] :: linesB s else match linesB s with
    | [] => [[c]]
    | x :: r => (c :: x) :: r
theorem linesB_cut : ∀ {x y : List UInt8}, (10 : UInt8) ∉ x → linesB (x ++ 10 :: y) = x :: linesB y
  | [], y, _ => by rw [List.nil_append, linesB, if_pos rfl]
  | b :: x, y, h => by
    simp only [List.mem_cons, not_or] at h
    rw [List.cons_append, linesB, if_neg (Ne.symm h.1), linesB_cut h.2]
theorem linesB_one : ∀ {x : List UInt8}, (10 : UInt8) ∉ x → x ≠ [] → linesB x = [x]
  | [], _, h => absurd rfl h
  | [b], h, _ => by
    simp only [List.mem_cons, not_or] at h
    rw [linesB, if_neg (Ne.symm h.1)]
    rfl
  | b :: c :: x, h, _ => by
    have h' := h
    rw [List.mem_cons, not_or] at h'
    rw [linesB, if_neg (Ne.symm h'.1), linesB_one h'.2 (by simp)]
theorem lines_back : ∀ (n : Nat) (t : List UInt8), t.length ≤ n → (t = [] ∨ t.getLast? = some 10) → (linesB t).flatMap (· ++ [10]) = t
  | 0, t, hn, _ => by
    have : t = [] := List.length_eq_zero_iff.1 (by omega)
    subst this
    rfl
  | n + 1, t, hn, he => by
    cases hc : cutB 10 t with
    | none =>
      rcases he with rfl | he
      · rfl
      · exact absurd (List.mem_of_getLast? he) (cutB_none hc)
    | some p =>
      obtain ⟨x, y⟩ := p
      obtain ⟨rfl, hx⟩ := cutB_some hc
      have hy : y = [] ∨ y.getLast? = some 10 := by
        cases y with
        | nil => exact .inl rfl
        | cons b y =>
          rcases he with he | he
          · simp at he
          · refine .inr ?_
            rw [List.getLast?_append] at he
            simpa using he
      rw [linesB_cut hx, List.flatMap_cons, lines_back n y (by simp at hn; omega) hy]
      simp
def ends (t : List UInt8) : Bool := decide (t.getLast? = some 10)
def HR (h : Int × Int × Int) : Prop := R64 h.1 ∧ R64 h.2.1 ∧ R64 h.2.2
def wRam : List UInt8 := [114, 97, 109, 98, 108, 101]
def headL (h : Int × Int × Int) : List UInt8 := wRam ++ 32 :: (Lib.itoa h.1 ++ 32 :: (Lib.itoa h.2.1 ++ 32 :: Lib.itoa h.2.2))
theorem head_split (h : Int × Int × Int) : splitB 32 (headL h) = [wRam, Lib.itoa h.1, Lib.itoa h.2.1, Lib.itoa h.2.2] := by
  unfold headL
  rw [splitB_cut (by decide), splitB_cut itoa_no, splitB_cut itoa_no, splitB_none itoa_no]
theorem head_inj {h h' : Int × Int × Int} (a : HR h) (b : HR h') (e : headL h = headL h') : h = h' := by
  have e1 : splitB 32 (headL h) = splitB 32 (headL h') := by rw [e]
  rw [head_split, head_split] at e1
  simp only [List.cons.injEq, true_and, and_true] at e1
  obtain ⟨x, y, z⟩ := h
  obtain ⟨x', y', z'⟩ := h'
  obtain ⟨a1, a2, a3⟩ := a
  obtain ⟨b1, b2, b3⟩ := b
  have f : ∀ {m n : Int}, R64 m → R64 n → Lib.itoa m = Lib.itoa n → m = n := fun hm hn he => by
    have h1 := itoa_good hm
    rw [he, itoa_good hn] at h1
    exact (Prod.mk.inj h1).1.symm
  have g1 : x = x' := f a1 b1 e1.1
  have g2 : y = y' := f a2 b2 e1.2.1
  have g3 : z = z' := f a3 b3 e1.2.2
  rw [g1, g2, g3]
open Classical in
noncomputable def hdO (s : List UInt8) : Option (Int × Int × Int) := if h : ∃ h, HR h ∧ headL h = s then some h.choose else none
theorem hdO_spec {s : List UInt8} {h : Int × Int × Int} (e : hdO s = some h) : HR h ∧ headL h = s := by
  unfold hdO at e
  split at e
  · rename_i g
    injection e with e
    rw [← e]
    exact g.choose_spec
  · cases e
theorem hdO_some {h : Int × Int × Int} (a : HR h) : hdO (headL h) = some h := by
  cases e : hdO (headL h) with
  | none =>
    unfold hdO at e
    rw [dif_pos ⟨h, a, rfl⟩] at e
    cases e
  | some x => rw [head_inj (hdO_spec e).1 a (hdO_spec e).2]
theorem says_any (s : List UInt8) : ∃ o, Says s o := by
  unfold Says
  rcases Classical.em ((parT (cutP (cutP s).2).1).2 = 0) with h | h
  · rcases Classical.em (∃ k, 1 ≤ k ∧ k ≤ 6 ∧ wordL k = (cutP s).1 ∧ acc (cand k (parT (cutP (cutP s).2).1).1 (cutP (cutP s).2).2) s) with ⟨k, h1, h2, h3, h4⟩ | g
    · exact ⟨_, .inr ⟨h, .inr ⟨k, h1, h2, h3, h4, rfl⟩⟩⟩
    · exact ⟨none, .inr ⟨h, .inl ⟨rfl, fun k h1 h2 h3 h4 => g ⟨k, h1, h2, h3, h4⟩⟩⟩⟩
  · exact ⟨none, .inl ⟨h, rfl⟩⟩
noncomputable def plO (s : List UInt8) : Option Cm := (says_any s).choose
theorem plO_says (s : List UInt8) : Says s (plO s) := (says_any s).choose_spec
theorem plO_eq {s : List UInt8} {o : Option Cm} (h : Says s o) : plO s = o := (plO_says s).inj h
def CR (c : Cm) : Prop := R64 c.se ∧ R64 c.to ∧ R64 c.ke
theorem plO_some {s : List UInt8} {c : Cm} (h : plO s = some c) : acc c s ∧ CR c := by
  have hs := plO_says s
  rw [h] at hs
  rcases hs with ⟨-, h0⟩ | ⟨-, ⟨h0, -⟩ | ⟨k, h1, h2, h3, h4, h5⟩⟩
  · cases h0
  · cases h0
  · injection h5 with h5
    subst h5
    refine ⟨h4, ?_⟩
    unfold cand CR
    split
    · exact ⟨(by decide : R64 0), parT_r _, parT_r _⟩
    · exact ⟨parT_r _, (by decide : R64 0), (by decide : R64 0)⟩
def printG : List Cm → List UInt8 → List UInt8 × Int
  | [], a => (a, 0)
  | c :: r, a => if (lineR c).2 = 0 then printG r (a ++ ((lineR c).1 ++ [10])) else ([], (lineR c).2)
def printR (h : Int × Int × Int) (cs : List Cm) : List UInt8 × Int := if 1024 < cs.length then ([], 3) else printG cs (headL h ++ [10])
noncomputable def parG (e : Bool) : List (List UInt8) → Nat → List Cm → Option (List Cm) × Int
  | [], n, a => if e = true then (some a, 0) else (none, (n : Int) - 1)
  | x :: r, n, a => match plO x with
    | none => (none, (n : Int))
    | some c => if a.length = 1024 then (none, (n : Int)) else parG e r (n + 1) (a ++ [c])
noncomputable def parR (t : List UInt8) : Option ((Int × Int × Int) × List Cm) × Int := match linesB t with
  | [] => (none, 1)
  | x :: r => match hdO x with
    | none => (none, 1)
    | some h => match parG (ends t) r 2 [] with
      | (some cs, _) => (some (h, cs), 0)
      | (none, n) => (none, n)
theorem printG_of : ∀ (cs : List Cm) (a : List UInt8), (∀ c ∈ cs, (lineR c).2 = 0) → printG cs a = (a ++ (cs.map fun c => (lineR c).1).flatMap (· ++ [10]), 0)
  | [], a, h => by simp [printG]
  | c :: r, a, h => by
    rw [printG, if_pos (h c (List.mem_cons_self ..)), printG_of r _ fun d hd => h d (List.mem_cons_of_mem _ hd), List.map_cons, List.flatMap_cons]
    simp only [List.append_assoc]
theorem parG_some (e : Bool) : ∀ (ls : List (List UInt8)) (n : Nat) (a cs : List Cm) (k : Int), parG e ls n a = (some cs, k) → a.length ≤ 1024 → e = true ∧ cs.length ≤ 1024 ∧ ∃ ds, cs = a ++ ds ∧ ls = ds.map (fun c => (lineR c).1) ∧ ∀ c ∈ ds, (lineR c).2 = 0 ∧ CR c
  | [], n, a, cs, k, h, hl => by
    unfold parG at h
    split at h
    · rename_i g
      injection h with h _
      injection h with h
      exact ⟨g, by rw [← h]; exact hl, [], by simp [h], rfl, fun c hc => by simp at hc⟩
    · cases (Prod.mk.inj h).1
  | x :: r, n, a, cs, k, h, hl => by
    rw [parG] at h
    cases hp : plO x with
    | none =>
      rw [hp] at h
      cases (Prod.mk.inj h).1
    | some c =>
      rw [hp] at h
      have h' : (if a.length = 1024 then ((none : Option (List Cm)), (n : Int)) else parG e r (n + 1) (a ++ [c])) = (some cs, k) := h
      split at h'
      · cases (Prod.mk.inj h').1
      · rename_i g
        obtain ⟨e1, e2, ds, e3, e4, e5⟩ := parG_some e r (n + 1) (a ++ [c]) cs k h' (by simp; omega)
        obtain ⟨p1, p2⟩ := plO_some hp
        refine ⟨e1, e2, c :: ds, by rw [e3]; simp, ?_, fun d hd => ?_⟩
        · rw [List.map_cons, p1.2, ← e4]
        · rcases List.mem_cons.1 hd with rfl | hd
          · exact ⟨p1.1, p2⟩
          · exact e5 d hd
theorem print_par {h : Int × Int × Int} {cs : List Cm} {t : List UInt8} {k : Int} (e : parR t = (some (h, cs), k)) : printR h cs = (t, 0) ∧ HR h ∧ cs.length ≤ 1024 ∧ ∀ c ∈ cs, (lineR c).2 = 0 ∧ CR c := by
  unfold parR at e
  cases hls : linesB t with
  | nil =>
    rw [hls] at e
    cases (Prod.mk.inj e).1
  | cons x r =>
    rw [hls] at e
    have e' : (match hdO x with | none => ((none : Option ((Int × Int × Int) × List Cm)), (1 : Int)) | some h => match parG (ends t) r 2 [] with | (some cs, _) => (some (h, cs), 0) | (none, n) => (none, n)) = (some (h, cs), k) := e
    cases hx : hdO x with
    | none =>
      rw [hx] at e'
      cases (Prod.mk.inj e').1
    | some h' =>
      rw [hx] at e'
      have e2 : (match parG (ends t) r 2 [] with | (some cs, _) => (some (h', cs), (0 : Int)) | (none, n) => (none, n)) = (some (h, cs), k) := e'
      rcases hp : parG (ends t) r 2 [] with ⟨o, n⟩
      cases o with
      | none =>
        rw [hp] at e2
        cases (Prod.mk.inj e2).1
      | some cs' =>
        rw [hp] at e2
        have e3 : (some (h', cs'), (0 : Int)) = (some (h, cs), k) := e2
        injection e3 with e3 _
        injection e3 with e3
        injection e3 with e3 e4
        subst e3 e4
        obtain ⟨p1, p2, ds, p3, p4, p5⟩ := parG_some _ _ _ _ _ _ hp (by simp)
        rw [List.nil_append] at p3
        subst p3
        obtain ⟨q1, q2⟩ := hdO_spec hx
        refine ⟨?_, q1, p2, p5⟩
        have hb := lines_back t.length t (Nat.le_refl _) (.inr (by simpa [ends] using p1))
        rw [hls, p4, List.flatMap_cons, ← q2] at hb
        unfold printR
        rw [if_neg (by omega), printG_of _ _ fun c m => (p5 c m).1, hb]
end Go.Proofs.YtbeaalkfakjoiaaDoor

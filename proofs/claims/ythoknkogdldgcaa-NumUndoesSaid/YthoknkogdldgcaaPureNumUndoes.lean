/- The law NumUndoes over numbers alone: a difference undoes a sum, a sign turned twice is as it was, a product goes over a sum where all have room; for all numbers of int64. -/
import Derived.Test.YthoknkogdldgcaaPNumUndoesx1
namespace Go.Proofs.Ythoknkogdldgcaa.Pure
open Go.RowKit Go.Proofs.Ythoknkogdldgcaa.PNumUndoes Go.Proofs.YthoknkogdldgcaaW.PrintWords Go.Proofs.YthoknkogdldgcaaW.PrintLast

def R64 (a : Int) : Prop := -9223372036854775808 ≤ a ∧ a ≤ 9223372036854775807
theorem r64 {a : Int} (h : (Lit.int .i64 a).wf = true) : R64 a := by
  have h1 : decide (IntKind.min .i64 ≤ a) = true ∧ decide (a ≤ IntKind.max .i64) = true := by simpa [Lit.wf] using h
  exact ⟨of_decide_eq_true h1.1, of_decide_eq_true h1.2⟩
theorem wr {a : Int} (h : R64 a) : wrap64 a = a := by unfold R64 at h; unfold wrap64; omega
theorem wrR (a : Int) : R64 (wrap64 a) := by unfold R64 wrap64; omega

/-- What a sum, difference or product answers: itself, where it has room. -/
def ans (x : Int) : Int × Int := if -9223372036854775808 ≤ x ∧ x ≤ 9223372036854775807 then (x, 0) else (0, 7)

theorem add_p (a b : Int) (ha : R64 a) (hb : R64 b) : num_Add.f a b = some (ans (a + b)) := by
  unfold R64 at ha hb
  unfold num_Add.f num_told.f ans
  have hw : wrap64 (a + b) = (a + b + 9223372036854775808) % 18446744073709551616 - 9223372036854775808 := by unfold wrap64; rfl
  generalize wrap64 (a + b) = c at hw
  by_cases h : -9223372036854775808 ≤ a + b ∧ a + b ≤ 9223372036854775807
  · rw [if_pos h]
    have : c = a + b := by omega
    subst this
    have e : (decide (a + b < a) == decide (b < 0)) = true := by
      rw [beq_iff_eq, decide_eq_decide]; omega
    rw [e]; rfl
  · rw [if_neg h]
    have e : (decide (c < a) == decide (b < 0)) = false := by
      rw [beq_eq_false_iff_ne, ne_eq, decide_eq_decide]; omega
    rw [e]; rfl

theorem sub_p (a b : Int) (ha : R64 a) (hb : R64 b) : num_Sub.f a b = some (ans (a - b)) := by
  unfold R64 at ha hb
  unfold num_Sub.f num_told.f ans
  have hw : wrap64 (a - b) = (a - b + 9223372036854775808) % 18446744073709551616 - 9223372036854775808 := by unfold wrap64; rfl
  generalize wrap64 (a - b) = c at hw
  by_cases h : -9223372036854775808 ≤ a - b ∧ a - b ≤ 9223372036854775807
  · rw [if_pos h]
    have : c = a - b := by omega
    subst this
    have e : (decide (a - b > a) == decide (b < 0)) = true := by
      rw [beq_iff_eq, decide_eq_decide]; omega
    rw [e]; rfl
  · rw [if_neg h]
    have e : (decide (c > a) == decide (b < 0)) = false := by
      rw [beq_eq_false_iff_ne, ne_eq, decide_eq_decide]; omega
    rw [e]; rfl

theorem neg_p (a : Int) (ha : R64 a) : num_Neg.f a = some (ans (-a)) := by
  unfold R64 at ha
  unfold num_Neg.f num_told.f ans
  have hw : wrap64 (-a) = (-a + 9223372036854775808) % 18446744073709551616 - 9223372036854775808 := by unfold wrap64; rfl
  generalize wrap64 (-a) = c at hw
  by_cases h : a = -9223372036854775808
  · subst h
    rfl
  · have e : (a != -9223372036854775808) = true := bne_iff_ne.mpr h
    have : c = -a := by omega
    subst this
    rw [e, if_pos rfl, if_pos (by omega)]
    rfl

/-- The quotient test of a product. -/
theorem quot_test (a b c p : Int) (ha : R64 a) (hb : R64 b) (h0 : b ≠ 0) (hp : p = a * b) (hc : c = wrap64 p) (hl' : ¬ (b = -1 ∧ a = -9223372036854775808)) :
    (wrap64 (Int.tdiv c b) = a) ↔ (-9223372036854775808 ≤ p ∧ p ≤ 9223372036854775807) := by
  have hcr : R64 c := hc ▸ wrR p
  constructor
  · intro h
    have h1 : Int.tdiv c b * b + Int.tmod c b = c := Int.tdiv_mul_add_tmod c b
    have h2 : (Int.tmod c b).natAbs < b.natAbs := by
      rw [Int.natAbs_tmod]; exact Nat.mod_lt _ (Int.natAbs_pos.2 h0)
    have h3 : (Int.tdiv c b).natAbs ≤ c.natAbs := by
      rw [Int.natAbs_tdiv]; exact Nat.div_le_self _ _
    have hq : Int.tdiv c b = a := by
      by_cases hs : R64 (Int.tdiv c b)
      · rwa [wr hs] at h
      · exfalso
        have hc' : c = -9223372036854775808 := by unfold R64 at *; omega
        subst hc'
        have hd : Int.tdiv (-9223372036854775808) b = 9223372036854775808 := by unfold R64 at *; omega
        rw [hd] at h h1
        have ha' : a = -9223372036854775808 := by rw [← h]; unfold wrap64; rfl
        have : b = -1 := by unfold R64 at *; omega
        exact hl' ⟨this, ha'⟩
    rw [hq, ← hp] at h1
    unfold wrap64 at hc
    unfold R64 at *
    omega
  · intro h
    have : c = p := by rw [hc]; exact wr h
    subst this
    rw [hp, Int.mul_tdiv_cancel _ h0]
    exact wr ha

theorem mul_p (a b : Int) (ha : R64 a) (hb : R64 b) : num_Mul.f a b = some (ans (a * b)) := by
  by_cases h1 : a = 0
  · subst h1; unfold num_Mul.f; rw [if_pos rfl, Int.zero_mul]; rfl
  by_cases h2 : b = 0
  · subst h2; unfold num_Mul.f; rw [if_neg h1, if_pos rfl, Int.mul_zero]; rfl
  have told : ∀ t : Bool, num_told.f (wrap64 (a * b)) t = some (if t = true then (wrap64 (a * b), 0) else (0, 7)) := by
    intro t; unfold num_told.f; cases t <;> rfl
  by_cases h3 : a = -1 ∧ b = -9223372036854775808
  · obtain ⟨rfl, rfl⟩ := h3; rfl
  by_cases h4 : b = -1 ∧ a = -9223372036854775808
  · obtain ⟨rfl, rfl⟩ := h4; rfl
  have hq := quot_test a b (wrap64 (a * b)) (a * b) ha hb h2 rfl rfl h4
  have key : (num_told.f (wrap64 (a * b)) ((wrap64 (Int.tdiv (wrap64 (a * b)) b)) == a)).bind (fun q => some (q.1, q.2)) = some (ans (a * b)) := by
    rw [told, Option.bind_some]
    unfold ans
    by_cases hr : -9223372036854775808 ≤ a * b ∧ a * b ≤ 9223372036854775807
    · rw [if_pos hr, (beq_iff_eq).2 (hq.2 hr), if_pos rfl, wr hr]
    · rw [if_neg hr, (beq_eq_false_iff_ne).2 (fun e => hr (hq.1 e))]; rfl
  unfold num_Mul.f
  rw [if_neg h1, if_neg h2]
  by_cases h5 : a = -1
  · rw [if_pos h5, if_neg (fun e => h3 ⟨h5, e⟩)]
    by_cases h6 : b = -1
    · rw [if_pos h6, if_neg (fun e => h4 ⟨h6, e⟩)]; exact key
    · rw [if_neg h6]; exact key
  · rw [if_neg h5]
    by_cases h6 : b = -1
    · rw [if_pos h6, if_neg (fun e => h4 ⟨h6, e⟩)]; exact key
    · rw [if_neg h6]; exact key


theorem ans_ok {x : Int} (h : (ans x).2 = 0) : -9223372036854775808 ≤ x ∧ x ≤ 9223372036854775807 ∧ ans x = (x, 0) := by
  unfold ans at *
  by_cases hr : -9223372036854775808 ≤ x ∧ x ≤ 9223372036854775807
  · exact ⟨hr.1, hr.2, if_pos hr⟩
  · rw [if_neg hr] at h; cases h
theorem ans_R (x : Int) : R64 (ans x).1 := by
  unfold ans R64
  split
  · assumption
  · simp
theorem ans_in {x : Int} (h : R64 x) : ans x = (x, 0) := if_pos h

theorem undo2 (a b c : Int) (ha : R64 a) (hb : R64 b) (hc : R64 c) (k : Nat) : ramblelaw01_NumUndoes.j2 (k + 1) a b c = some true := by
  simp only [ramblelaw01_NumUndoes.j2]
  rw [add_p a b ha hb]; simp only [Option.bind_some]
  rw [mul_p _ c (ans_R _) hc]; simp only [Option.bind_some]
  rw [mul_p a c ha hc]; simp only [Option.bind_some]
  rw [mul_p b c hb hc]; simp only [Option.bind_some]
  rw [add_p _ _ (ans_R _) (ans_R _)]; simp only [Option.bind_some]
  by_cases h1 : (ans (a + b)).2 = 0
  · rw [if_pos h1]
    have e1 := (ans_ok h1).2.2
    rw [e1]
    by_cases h2 : (ans ((a + b) * c)).2 = 0
    · rw [if_pos h2]
      have k2 := ans_ok h2
      by_cases h3 : (ans (a * c)).2 = 0
      · rw [if_pos h3]
        have k3 := ans_ok h3
        by_cases h4 : (ans (b * c)).2 = 0
        · rw [if_pos h4]
          have k4 := ans_ok h4
          rw [k3.2.2, k4.2.2, ← Int.add_mul, k2.2.2]
          simp
        · rw [if_neg h4]
      · rw [if_neg h3]
    · rw [if_neg h2]
  · rw [if_neg h1]

theorem undo1 (a b c : Int) (ha : R64 a) (hb : R64 b) (hc : R64 c) (k : Nat) : ramblelaw01_NumUndoes.j1 (k + 2) a b c = some true := by
  simp only [ramblelaw01_NumUndoes.j1]
  rw [neg_p a ha]; simp only [Option.bind_some]
  by_cases h1 : (ans (-a)).2 = 0
  · rw [if_pos h1]
    rw [neg_p _ (ans_R _), (ans_ok h1).2.2]; simp only [Option.bind_some]
    rw [Int.neg_neg, ans_in ha]
    rw [if_pos rfl, if_pos rfl]
    exact undo2 a b c ha hb hc k
  · rw [if_neg h1]
    exact undo2 a b c ha hb hc k

theorem undo0 (a b c : Int) (ha : R64 a) (hb : R64 b) (hc : R64 c) (k : Nat) : ramblelaw01_NumUndoes.j0 (k + 3) a b c false = some true := by
  simp only [ramblelaw01_NumUndoes.j0, if_neg (show ¬ (false = true) by decide)]
  rw [add_p a b ha hb]; simp only [Option.bind_some]
  by_cases h1 : (ans (a + b)).2 = 0
  · rw [if_pos h1]
    rw [sub_p _ b (ans_R _) hb, (ans_ok h1).2.2]; simp only [Option.bind_some]
    rw [show a + b - b = a by omega, ans_in ha]
    rw [if_pos rfl, if_pos rfl]
    exact undo1 a b c ha hb hc k
  · rw [if_neg h1]
    exact undo1 a b c ha hb hc k

theorem NumUndoes : ramblelaw01_NumUndoes.Pure := by
  intro a b c ha hb hc
  have ha := r64 ha
  have hb := r64 hb
  have hc := r64 hc
  refine ⟨3, ?_⟩
  unfold ramblelaw01_NumUndoes.f
  rw [add_p 1 1 (by unfold R64; decide) (by unfold R64; decide)]
  simp only [Option.bind_some]
  rw [show ans (1 + 1) = (2, 0) by decide, if_pos rfl]
  exact undo0 a b c ha hb hc 0

end Go.Proofs.Ythoknkogdldgcaa.Pure

/- CodecBetween, over plain values. -/
import Derived.Test.YtfdebgebnkbagaaDoorCodA
import Derived.Test.YtfdebgebnkbagaaDoorCodF
set_option linter.unusedVariables false
set_option linter.unusedSimpArgs false
namespace Go.Proofs.YtfdebgebnkbagaaDoor
open Go Go.AM Go.RowKit

theorem afterR_none : ∀ {r : List UInt8}, afterR r = none → ∀ c ∈ r, c = 255
  | [], _, c, hc => by cases hc
  | d :: r, h, c, hc => by
    unfold afterR at h
    split at h
    · rename_i hd
      rcases List.mem_cons.1 hc with rfl | hc
      · exact hd
      · exact afterR_none h c hc
    · cases h
theorem after_none {b : List UInt8} (h : after b = none) : ∀ c ∈ b, c = 255 := fun c hc => by
  unfold after at h
  rw [Option.map_eq_none_iff] at h
  exact afterR_none h c (List.mem_reverse.2 hc)
theorem afterR_some : ∀ {r a : List UInt8}, afterR r = some a → ∃ t c pre, r = t ++ c :: pre ∧ c ≠ 255 ∧ (∀ x ∈ t, x = 255) ∧ a = (c + 1) :: pre
  | [], a, h => by cases h
  | d :: r, a, h => by
    unfold afterR at h
    split at h
    · rename_i hd
      obtain ⟨t, c, pre, rfl, h2, h3, h4⟩ := afterR_some h
      exact ⟨d :: t, c, pre, rfl, h2, fun x hx => by
        rcases List.mem_cons.1 hx with rfl | hx
        · exact hd
        · exact h3 x hx, h4⟩
    · rename_i hd
      injection h with h
      exact ⟨[], d, r, rfl, hd, (fun x hx => by cases hx), h.symm⟩
theorem after_some {b a : List UInt8} (h : after b = some a) : ∃ pre c t, b = pre ++ c :: t ∧ c ≠ 255 ∧ (∀ x ∈ t, x = 255) ∧ a = pre ++ [c + 1] := by
  unfold after at h
  obtain ⟨r, h1, rfl⟩ := Option.map_eq_some_iff.1 h
  obtain ⟨t, c, pre, h2, h3, h4, rfl⟩ := afterR_some h1
  refine ⟨pre.reverse, c, t.reverse, ?_, h3, fun x hx => h4 x (List.mem_reverse.1 hx), by simp⟩
  rw [← List.reverse_reverse b, h2]
  simp
theorem cmpI_neg {a b : Int} (h : a < b) : cmpI a b = -1 := if_pos h
theorem cmpI_one {a b : Int} (h : b < a) : cmpI a b = 1 := by unfold cmpI; rw [if_neg (by omega), if_pos h]
theorem u8_lt_of {y : UInt8} (h : y ≠ 255) : (y.toNat : Int) < 255 := by rw [u8_lt255]; exact h
theorem ge_all : ∀ (b x : List UInt8), (∀ c ∈ b, c = 255) → ((0 ≤ cmpS x b) ↔ b <+: x)
  | [], [], _ => by simp [cmpS]
  | [], y :: x, _ => by simp [cmpS]
  | c :: b, [], h => by simp [cmpS]
  | c :: b, y :: x, h => by
    have hc := h c List.mem_cons_self
    subst hc
    by_cases hy : y = 255
    · subst hy
      simp only [cmpS, if_true, List.cons_prefix_cons, true_and]
      exact ge_all b x (fun c hc => h c (List.mem_cons_of_mem _ hc))
    · have : cmpS (y :: x) (255 :: b) = -1 := by
        unfold cmpS
        rw [if_neg hy]
        exact cmpI_neg (u8_lt_of hy)
      rw [this, List.cons_prefix_cons]
      simp
      intro e; exact absurd e.symm hy
theorem inc_nat {c : UInt8} (h : c ≠ 255) : ((c + 1).toNat : Int) = c.toNat + 1 := by
  have := u8_lt_of h
  rw [UInt8.toNat_add]
  have h1 : (1 : UInt8).toNat = 1 := rfl
  omega
theorem between : ∀ (pre : List UInt8) (c : UInt8) (t x : List UInt8), c ≠ 255 → (∀ z ∈ t, z = 255) → ((0 ≤ cmpS x (pre ++ c :: t) ∧ cmpS x (pre ++ [c + 1]) < 0) ↔ (pre ++ c :: t) <+: x)
  | [], c, t, [], hc, ht => by simp [cmpS]
  | d :: pre, c, t, [], hc, ht => by simp [cmpS]
  | [], c, t, y :: x, hc, ht => by
    have hi := inc_nat hc
    simp only [List.nil_append]
    rw [List.cons_prefix_cons]
    by_cases hy : y = c
    · subst hy
      have h1 : cmpS (y :: x) (y :: t) = cmpS x t := by simp [cmpS]
      have h2 : cmpS (y :: x) [y + 1] = -1 := by
        have : y ≠ y + 1 := fun e => by rw [← e] at hi; omega
        unfold cmpS
        rw [if_neg this]
        exact cmpI_neg (by omega)
      rw [h1, h2, ge_all t x ht]
      simp
    · have hne : (y.toNat : Int) ≠ c.toNat := fun e => hy (UInt8.toNat_inj.1 (by omega))
      have h1 : cmpS (y :: x) (c :: t) = cmpI y.toNat c.toNat := by unfold cmpS; rw [if_neg hy]
      rw [h1]
      constructor
      · rintro ⟨a1, a2⟩
        exfalso
        by_cases hlt : (y.toNat : Int) < c.toNat
        · rw [cmpI_neg hlt] at a1; omega
        · by_cases hyc : y = c + 1
          · subst hyc
            simp only [cmpS, if_true] at a2
            cases x <;> simp [cmpS] at a2
          · have : cmpS (y :: x) [c + 1] = cmpI y.toNat (c + 1).toNat := by unfold cmpS; rw [if_neg hyc]
            rw [this] at a2
            have hne2 : (y.toNat : Int) ≠ (c + 1).toNat := fun e => hyc (UInt8.toNat_inj.1 (by omega))
            rw [cmpI_one (by omega)] at a2
            omega
      · rintro ⟨e, _⟩
        exact absurd e.symm hy
  | d :: pre, c, t, y :: x, hc, ht => by
    simp only [List.cons_append]
    rw [List.cons_prefix_cons]
    by_cases hy : y = d
    · subst hy
      simp only [cmpS, if_true, true_and]
      exact between pre c t x hc ht
    · have h1 : ∀ w, cmpS (y :: x) (d :: w) = cmpI y.toNat d.toNat := fun w => by unfold cmpS; rw [if_neg hy]
      rw [h1, h1]
      constructor
      · rintro ⟨a1, a2⟩; omega
      · rintro ⟨e, _⟩; exact absurd e.symm hy
theorem not_pre {b a : List UInt8} (h : after b = some a) : ¬ b <+: a := by
  obtain ⟨pre, c, t, rfl, hc, ht, rfl⟩ := after_some h
  rw [List.prefix_append_right_inj, List.cons_prefix_cons]
  rintro ⟨e, _⟩
  have hi := inc_nat hc
  rw [← e] at hi
  omega
theorem between_of {b a : List UInt8} (h : after b = some a) (x : List UInt8) : (0 ≤ cmpS x b ∧ cmpS x a < 0) ↔ b <+: x := by
  obtain ⟨pre, c, t, rfl, hc, ht, rfl⟩ := after_some h
  exact between pre c t x hc ht
theorem after_len {b a : List UInt8} (h : after b = some a) : a.length ≤ b.length := by
  obtain ⟨pre, c, t, rfl, hc, ht, rfl⟩ := after_some h
  simp
theorem all_loop (p : PV) (b : List UInt8) (hp : BV p b) (hb : b.length ≤ 140737488355328) (hall : ∀ c ∈ b, c = 255) (e0 : EC) (i7 i6 i5 p1 : PV) : ∀ (rest pre : List UInt8) (e : EC), b = pre ++ rest → e.get 0 = some p → e.get 1 = some p1 → e.get 5 = some i5 → e.get 6 = some i6 → e.get 7 = some i7 → e.get 38 = some p → e.get 39 = some (.int .i64 b.length) → e.get 40 = some (.int .i64 pre.length) →
    V T (PE fun x e' st' => x = .exit 0 ∧ st' = emptySt ∧ e' = .put 0 p (.put 1 p1 (.put 5 i5 (.put 6 i6 (.put 7 i7 .nil))))) [.code (.loop lp_ramblelaw03_CodecBetween_0)] .normal e emptySt := by
  intro rest
  induction rest with
  | nil =>
    intro pre e hl h0 h1 h5 h6 h7 h38 h39 h40
    have hlt : decide ((pre.length : Int) < b.length) = false := decide_eq_false (by subst hl; simp)
    have out : ∀ (fr : List Fr) (x : EX) (e' : EC), adv 200 fr x = ([], .exit 0) → e'.get 0 = some p → e'.get 1 = some p1 → e'.get 5 = some i5 → e'.get 6 = some i6 → e'.get 7 = some i7 → V T (PE fun x e' st' => x = .exit 0 ∧ st' = emptySt ∧ e' = .put 0 p (.put 1 p1 (.put 5 i5 (.put 6 i6 (.put 7 i7 .nil))))) fr x e' emptySt := fun fr x e' hadv g0 g1 g5 g6 g7 =>
      V_less (.put 0 p (.put 1 p1 (.put 5 i5 (.put 6 i6 (.put 7 i7 .nil))))) (less_put g0 (less_put g1 (less_put g5 (less_put g6 (less_put g7 less_nil))))) (V_endP hadv ⟨rfl, rfl, rfl⟩)
    refine V_less (.put 0 p (.put 1 p1 (.put 5 i5 (.put 6 i6 (.put 7 i7 (.put 39 _ (.put 40 _ .nil))))))) (less_put h0 (less_put h1 (less_put h5 (less_put h6 (less_put h7 (less_put h39 (less_put h40 less_nil))))))) (V_unroll ?_)
    repeat' first
      | refine V_cH hlt rfl rfl ?_
      | refine out _ _ _ rfl rfl rfl rfl rfl rfl
      | refine V_O rfl ?_
      | refine O_step rfl ?_
      | refine O_nil' ?_
      | refine V_cT rfl rfl ?_
      | refine V_cF rfl rfl ?_
      | refine V_cEq rfl rfl ?_
      | refine V_cNe rfl rfl ?_
      | refine V_cB rfl rfl (fun _ => ?_) (fun _ => ?_)
      | refine O_gT' rfl ?_
      | refine O_gU' rfl ?_
      | refine O_gF' rfl rfl ?_
      | refine O_gEq rfl ?_
      | refine O_gNe rfl ?_
      | refine O_gS rfl (fun _ => ?_) (fun _ => ?_)
      | refine V_fin rfl rfl (Pl.view (by (repeat' (first | exact Pl.int _ _ | exact Pl.bool _ | exact Pl.str _ | exact Pl.nilSl | exact pl_nil | refine pl_cons ?_ ?_ | refine Pl.tuple _ ?_ | refine Pl.agg _ ?_ | refine Pl.func _ _ ?_ | assumption | refine Pl.iptr _ _ ?_ | exact pll_nil | refine pll_cons ?_ ?_ | refine Pl.sl _ _ ?_)); first | done | fail)) ?_
      | refine V_finN rfl rfl (Pl.view (by (repeat' (first | exact Pl.int _ _ | exact Pl.bool _ | exact Pl.str _ | exact Pl.nilSl | exact pl_nil | refine pl_cons ?_ ?_ | refine Pl.tuple _ ?_ | refine Pl.agg _ ?_ | refine Pl.func _ _ ?_ | assumption | refine Pl.iptr _ _ ?_ | exact pll_nil | refine pll_cons ?_ ?_ | refine Pl.sl _ _ ?_)); first | done | fail)) ?_
      | refine V_D rfl ?_
      | refine D_step rfl ?_
      | refine D_nil' ?_
      | refine D_gT' rfl ?_
      | refine D_gU' rfl ?_
      | refine D_gF' rfl rfl ?_
      | refine D_gS rfl (fun _ => ?_) (fun _ => ?_)
  | cons c rest ih =>
    intro pre e hl h0 h1 h5 h6 h7 h38 h39 h40
    have hlt : decide ((pre.length : Int) < b.length) = true := decide_eq_true (by subst hl; simp; omega)
    have hpl : pre.length + 1 ≤ b.length := by subst hl; simp
    have hc : c = 255 := hall c (by subst hl; simp)
    subst hc
    have hat := hp.at (n := (pre.length : Int)) (b := 255) (by omega) (by subst hl; simp)
    have hw : IntKind.i64.wrap ((pre.length : Int) + 1) = ((pre ++ [(255 : UInt8)]).length : Int) := by rw [wrap_i64]; simp; omega
    have fin : ∀ (fr : List Fr) (x : EX) (e' : EC), adv 200 fr x = ([.code (.loop lp_ramblelaw03_CodecBetween_0)], .normal) → e'.get 0 = some p → e'.get 1 = some p1 → e'.get 5 = some i5 → e'.get 6 = some i6 → e'.get 7 = some i7 → e'.get 38 = some p → e'.get 39 = some (.int .i64 b.length) → e'.get 40 = some (.int .i64 (IntKind.i64.wrap ((pre.length : Int) + 1))) → V T (PE fun x e' st' => x = .exit 0 ∧ st' = emptySt ∧ e' = .put 0 p (.put 1 p1 (.put 5 i5 (.put 6 i6 (.put 7 i7 .nil))))) fr x e' emptySt := fun fr x e' hadv g0 g1 g5 g6 g7 g38 g39 g40 => V_adv hadv (by
      rw [hw] at g40
      exact ih (pre ++ [255]) e' (by rw [hl]; simp) g0 g1 g5 g6 g7 g38 g39 g40)
    refine V_less (.put 0 p (.put 1 p1 (.put 5 i5 (.put 6 i6 (.put 7 i7 (.put 38 p (.put 39 _ (.put 40 _ .nil)))))))) (less_put h0 (less_put h1 (less_put h5 (less_put h6 (less_put h7 (less_put h38 (less_put h39 (less_put h40 less_nil)))))))) (V_unroll ?_)
    repeat' first
      | refine V_cHT hlt rfl rfl ?_
      | refine O_at rfl rfl hat ?_
      | refine fin _ _ _ rfl rfl rfl rfl rfl rfl rfl rfl rfl
      | refine V_O rfl ?_
      | refine O_step rfl ?_
      | refine O_nil' ?_
      | refine V_cT rfl rfl ?_
      | refine V_cF rfl rfl ?_
      | refine V_cEq rfl rfl ?_
      | refine V_cNe rfl rfl ?_
      | refine V_cB rfl rfl (fun _ => ?_) (fun _ => ?_)
      | refine O_gT' rfl ?_
      | refine O_gU' rfl ?_
      | refine O_gF' rfl rfl ?_
      | refine O_gEq rfl ?_
      | refine O_gNe rfl ?_
      | refine O_gS rfl (fun _ => ?_) (fun _ => ?_)
      | refine V_fin rfl rfl (Pl.view (by (repeat' (first | exact Pl.int _ _ | exact Pl.bool _ | exact Pl.str _ | exact Pl.nilSl | exact pl_nil | refine pl_cons ?_ ?_ | refine Pl.tuple _ ?_ | refine Pl.agg _ ?_ | refine Pl.func _ _ ?_ | assumption | refine Pl.iptr _ _ ?_ | exact pll_nil | refine pll_cons ?_ ?_ | refine Pl.sl _ _ ?_)); first | done | fail)) ?_
      | refine V_finN rfl rfl (Pl.view (by (repeat' (first | exact Pl.int _ _ | exact Pl.bool _ | exact Pl.str _ | exact Pl.nilSl | exact pl_nil | refine pl_cons ?_ ?_ | refine Pl.tuple _ ?_ | refine Pl.agg _ ?_ | refine Pl.func _ _ ?_ | assumption | refine Pl.iptr _ _ ?_ | exact pll_nil | refine pll_cons ?_ ?_ | refine Pl.sl _ _ ?_)); first | done | fail)) ?_
      | refine V_D rfl ?_
      | refine D_step rfl ?_
      | refine D_nil' ?_
      | refine D_gT' rfl ?_
      | refine D_gU' rfl ?_
      | refine D_gF' rfl rfl ?_
      | refine D_gS rfl (fun _ => ?_) (fun _ => ?_)
set_option maxHeartbeats 4000000 in
theorem law_CodecBetween {p q : PV} {b x : List UInt8} (hp : BV p b) (hq : BV q x) (hb : b.length ≤ 140737488355328) (hx : x.length ≤ 140737488355328) : T.R (.call n_ramblelaw03_CodecBetween [p, q] (.bool true)) := by
  have hbeg := run_begun
  have hcb := run_bytesCompare hq hp
  have hpre := run_HasPrefix hq hp
  have plp := hp.pl
  have plq := hq.pl
  rcases run_After hp hb with ⟨ha, hA⟩ | ⟨a, ha, hA⟩
  · have hall := after_none ha
    have hge := ge_all b x hall
    have hd : decide (b <+: x) = decide (0 ≤ cmpS x b) := decide_eq_decide.2 hge.symm
    rw [hd] at hpre
    have hloop := fun e i5 i6 i7 h0 h1 h5 h6 h7 h38 h39 h40 => all_loop p b hp hb hall .nil i7 i6 i5 q b [] e rfl h0 h1 h5 h6 h7 h38 h39 h40
    generalize cmpS x b = r at hcb hpre
    refine call_V rfl rfl ?_
    repeat' first
      | refine O_callP rfl rfl (viewL_pl (by (repeat' (first | exact Pl.int _ _ | exact Pl.bool _ | exact Pl.str _ | exact Pl.nilSl | exact pl_nil | refine pl_cons ?_ ?_ | refine Pl.tuple _ ?_ | refine Pl.agg _ ?_ | refine Pl.func _ _ ?_ | assumption | refine Pl.iptr _ _ ?_ | exact pll_nil | refine pll_cons ?_ ?_ | refine Pl.sl _ _ ?_)); first | done | fail)) hA ?_
      | refine O_callP rfl rfl (viewL_pl (by (repeat' (first | exact Pl.int _ _ | exact Pl.bool _ | exact Pl.str _ | exact Pl.nilSl | exact pl_nil | refine pl_cons ?_ ?_ | refine Pl.tuple _ ?_ | refine Pl.agg _ ?_ | refine Pl.func _ _ ?_ | assumption | refine Pl.iptr _ _ ?_ | exact pll_nil | refine pll_cons ?_ ?_ | refine Pl.sl _ _ ?_)); first | done | fail)) hbeg ?_
      | refine O_callP rfl rfl (viewL_pl (by (repeat' (first | exact Pl.int _ _ | exact Pl.bool _ | exact Pl.str _ | exact Pl.nilSl | exact pl_nil | refine pl_cons ?_ ?_ | refine Pl.tuple _ ?_ | refine Pl.agg _ ?_ | refine Pl.func _ _ ?_ | assumption | refine Pl.iptr _ _ ?_ | exact pll_nil | refine pll_cons ?_ ?_ | refine Pl.sl _ _ ?_)); first | done | fail)) hcb ?_
      | refine O_callP rfl rfl (viewL_pl (by (repeat' (first | exact Pl.int _ _ | exact Pl.bool _ | exact Pl.str _ | exact Pl.nilSl | exact pl_nil | refine pl_cons ?_ ?_ | refine Pl.tuple _ ?_ | refine Pl.agg _ ?_ | refine Pl.func _ _ ?_ | assumption | refine Pl.iptr _ _ ?_ | exact pll_nil | refine pll_cons ?_ ?_ | refine Pl.sl _ _ ?_)); first | done | fail)) hpre ?_
      | refine O_lenB rfl hp ?_
      | refine V_cutA rfl (hloop _ _ _ _ rfl rfl rfl rfl rfl rfl rfl rfl) ?_
      | refine V_O rfl ?_
      | refine O_step rfl ?_
      | refine O_nil' ?_
      | refine V_cT rfl rfl ?_
      | refine V_cF rfl rfl ?_
      | refine V_cEq rfl rfl ?_
      | refine V_cNe rfl rfl ?_
      | refine V_cB rfl rfl (fun _ => ?_) (fun _ => ?_)
      | refine O_gT' rfl ?_
      | refine O_gU' rfl ?_
      | refine O_gF' rfl rfl ?_
      | refine O_gEq rfl ?_
      | refine O_gNe rfl ?_
      | refine O_gS rfl (fun _ => ?_) (fun _ => ?_)
      | refine V_fin rfl rfl (Pl.view (by (repeat' (first | exact Pl.int _ _ | exact Pl.bool _ | exact Pl.str _ | exact Pl.nilSl | exact pl_nil | refine pl_cons ?_ ?_ | refine Pl.tuple _ ?_ | refine Pl.agg _ ?_ | refine Pl.func _ _ ?_ | assumption | refine Pl.iptr _ _ ?_ | exact pll_nil | refine pll_cons ?_ ?_ | refine Pl.sl _ _ ?_)); first | done | fail)) ?_
      | refine V_finN rfl rfl (Pl.view (by (repeat' (first | exact Pl.int _ _ | exact Pl.bool _ | exact Pl.str _ | exact Pl.nilSl | exact pl_nil | refine pl_cons ?_ ?_ | refine Pl.tuple _ ?_ | refine Pl.agg _ ?_ | refine Pl.func _ _ ?_ | assumption | refine Pl.iptr _ _ ?_ | exact pll_nil | refine pll_cons ?_ ?_ | refine Pl.sl _ _ ?_)); first | done | fail)) ?_
      | refine V_D rfl ?_
      | refine D_step rfl ?_
      | refine D_nil' ?_
      | refine D_gT' rfl ?_
      | refine D_gU' rfl ?_
      | refine D_gF' rfl rfl ?_
      | refine D_gS rfl (fun _ => ?_) (fun _ => ?_)
    all_goals try (rintro x1 e1 st1 ⟨rfl, rfl, rfl⟩)
    all_goals repeat' first
        | refine O_callP rfl rfl (viewL_pl (by (repeat' (first | exact Pl.int _ _ | exact Pl.bool _ | exact Pl.str _ | exact Pl.nilSl | exact pl_nil | refine pl_cons ?_ ?_ | refine Pl.tuple _ ?_ | refine Pl.agg _ ?_ | refine Pl.func _ _ ?_ | assumption | refine Pl.iptr _ _ ?_ | exact pll_nil | refine pll_cons ?_ ?_ | refine Pl.sl _ _ ?_)); first | done | fail)) hpre ?_
        | refine V_O rfl ?_
        | refine O_step rfl ?_
        | refine O_nil' ?_
        | refine V_cT rfl rfl ?_
        | refine V_cF rfl rfl ?_
        | refine V_cEq rfl rfl ?_
        | refine V_cNe rfl rfl ?_
        | refine V_cB rfl rfl (fun _ => ?_) (fun _ => ?_)
        | refine O_gT' rfl ?_
        | refine O_gU' rfl ?_
        | refine O_gF' rfl rfl ?_
        | refine O_gEq rfl ?_
        | refine O_gNe rfl ?_
        | refine O_gS rfl (fun _ => ?_) (fun _ => ?_)
        | refine V_fin rfl rfl (Pl.view (by (repeat' (first | exact Pl.int _ _ | exact Pl.bool _ | exact Pl.str _ | exact Pl.nilSl | exact pl_nil | refine pl_cons ?_ ?_ | refine Pl.tuple _ ?_ | refine Pl.agg _ ?_ | refine Pl.func _ _ ?_ | assumption | refine Pl.iptr _ _ ?_ | exact pll_nil | refine pll_cons ?_ ?_ | refine Pl.sl _ _ ?_)); first | done | fail)) ?_
        | refine V_finN rfl rfl (Pl.view (by (repeat' (first | exact Pl.int _ _ | exact Pl.bool _ | exact Pl.str _ | exact Pl.nilSl | exact pl_nil | refine pl_cons ?_ ?_ | refine Pl.tuple _ ?_ | refine Pl.agg _ ?_ | refine Pl.func _ _ ?_ | assumption | refine Pl.iptr _ _ ?_ | exact pll_nil | refine pll_cons ?_ ?_ | refine Pl.sl _ _ ?_)); first | done | fail)) ?_
        | refine V_D rfl ?_
        | refine D_step rfl ?_
        | refine D_nil' ?_
        | refine D_gT' rfl ?_
        | refine D_gU' rfl ?_
        | refine D_gF' rfl rfl ?_
        | refine D_gS rfl (fun _ => ?_) (fun _ => ?_)
    all_goals first | rfl | (exfalso; simp_all; done) | (exfalso; simp_all; omega)
  · have hbt := between_of ha x
    have hla := after_len ha
    have hva : BV (.sl (byteCells a) false) a := .sl a false
    have pla := hva.pl
    have hca := run_bytesCompare hq hva
    have hpa := run_HasPrefix hva hp
    rw [decide_eq_false (not_pre ha)] at hpa
    have hd : decide (b <+: x) = (decide (0 ≤ cmpS x b) && decide (cmpS x a < 0)) := by
      rw [← Bool.decide_and]
      exact decide_eq_decide.2 hbt.symm
    rw [hd] at hpre
    generalize cmpS x b = r at hcb hpre
    generalize cmpS x a = r2 at hca hpre
    refine call_V rfl rfl ?_
    repeat' first
      | refine O_callP rfl rfl (viewL_pl (by (repeat' (first | exact Pl.int _ _ | exact Pl.bool _ | exact Pl.str _ | exact Pl.nilSl | exact pl_nil | refine pl_cons ?_ ?_ | refine Pl.tuple _ ?_ | refine Pl.agg _ ?_ | refine Pl.func _ _ ?_ | assumption | refine Pl.iptr _ _ ?_ | exact pll_nil | refine pll_cons ?_ ?_ | refine Pl.sl _ _ ?_)); first | done | fail)) hA ?_
      | refine O_callP rfl rfl (viewL_pl (by (repeat' (first | exact Pl.int _ _ | exact Pl.bool _ | exact Pl.str _ | exact Pl.nilSl | exact pl_nil | refine pl_cons ?_ ?_ | refine Pl.tuple _ ?_ | refine Pl.agg _ ?_ | refine Pl.func _ _ ?_ | assumption | refine Pl.iptr _ _ ?_ | exact pll_nil | refine pll_cons ?_ ?_ | refine Pl.sl _ _ ?_)); first | done | fail)) hbeg ?_
      | refine O_callP rfl rfl (viewL_pl (by (repeat' (first | exact Pl.int _ _ | exact Pl.bool _ | exact Pl.str _ | exact Pl.nilSl | exact pl_nil | refine pl_cons ?_ ?_ | refine Pl.tuple _ ?_ | refine Pl.agg _ ?_ | refine Pl.func _ _ ?_ | assumption | refine Pl.iptr _ _ ?_ | exact pll_nil | refine pll_cons ?_ ?_ | refine Pl.sl _ _ ?_)); first | done | fail)) hcb ?_
      | refine O_callP rfl rfl (viewL_pl (by (repeat' (first | exact Pl.int _ _ | exact Pl.bool _ | exact Pl.str _ | exact Pl.nilSl | exact pl_nil | refine pl_cons ?_ ?_ | refine Pl.tuple _ ?_ | refine Pl.agg _ ?_ | refine Pl.func _ _ ?_ | assumption | refine Pl.iptr _ _ ?_ | exact pll_nil | refine pll_cons ?_ ?_ | refine Pl.sl _ _ ?_)); first | done | fail)) hca ?_
      | refine O_callP rfl rfl (viewL_pl (by (repeat' (first | exact Pl.int _ _ | exact Pl.bool _ | exact Pl.str _ | exact Pl.nilSl | exact pl_nil | refine pl_cons ?_ ?_ | refine Pl.tuple _ ?_ | refine Pl.agg _ ?_ | refine Pl.func _ _ ?_ | assumption | refine Pl.iptr _ _ ?_ | exact pll_nil | refine pll_cons ?_ ?_ | refine Pl.sl _ _ ?_)); first | done | fail)) hpa ?_
      | refine O_callP rfl rfl (viewL_pl (by (repeat' (first | exact Pl.int _ _ | exact Pl.bool _ | exact Pl.str _ | exact Pl.nilSl | exact pl_nil | refine pl_cons ?_ ?_ | refine Pl.tuple _ ?_ | refine Pl.agg _ ?_ | refine Pl.func _ _ ?_ | assumption | refine Pl.iptr _ _ ?_ | exact pll_nil | refine pll_cons ?_ ?_ | refine Pl.sl _ _ ?_)); first | done | fail)) hpre ?_
      | refine V_O rfl ?_
      | refine O_step rfl ?_
      | refine O_nil' ?_
      | refine V_cT rfl rfl ?_
      | refine V_cF rfl rfl ?_
      | refine V_cEq rfl rfl ?_
      | refine V_cNe rfl rfl ?_
      | refine V_cB rfl rfl (fun _ => ?_) (fun _ => ?_)
      | refine O_gT' rfl ?_
      | refine O_gU' rfl ?_
      | refine O_gF' rfl rfl ?_
      | refine O_gEq rfl ?_
      | refine O_gNe rfl ?_
      | refine O_gS rfl (fun _ => ?_) (fun _ => ?_)
      | refine V_fin rfl rfl (Pl.view (by (repeat' (first | exact Pl.int _ _ | exact Pl.bool _ | exact Pl.str _ | exact Pl.nilSl | exact pl_nil | refine pl_cons ?_ ?_ | refine Pl.tuple _ ?_ | refine Pl.agg _ ?_ | refine Pl.func _ _ ?_ | assumption | refine Pl.iptr _ _ ?_ | exact pll_nil | refine pll_cons ?_ ?_ | refine Pl.sl _ _ ?_)); first | done | fail)) ?_
      | refine V_finN rfl rfl (Pl.view (by (repeat' (first | exact Pl.int _ _ | exact Pl.bool _ | exact Pl.str _ | exact Pl.nilSl | exact pl_nil | refine pl_cons ?_ ?_ | refine Pl.tuple _ ?_ | refine Pl.agg _ ?_ | refine Pl.func _ _ ?_ | assumption | refine Pl.iptr _ _ ?_ | exact pll_nil | refine pll_cons ?_ ?_ | refine Pl.sl _ _ ?_)); first | done | fail)) ?_
      | refine V_D rfl ?_
      | refine D_step rfl ?_
      | refine D_nil' ?_
      | refine D_gT' rfl ?_
      | refine D_gU' rfl ?_
      | refine D_gF' rfl rfl ?_
      | refine D_gS rfl (fun _ => ?_) (fun _ => ?_)
    all_goals first | rfl | (simp_all; done) | (exfalso; simp_all; omega)
end Go.Proofs.YtfdebgebnkbagaaDoor


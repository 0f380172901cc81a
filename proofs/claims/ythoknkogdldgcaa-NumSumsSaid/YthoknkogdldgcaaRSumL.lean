/- The document's sum; the law NumSums. -/
import Derived.Test.YthoknkogdldgcaaSumL
set_option linter.unusedVariables false
set_option linter.unusedSimpArgs false
namespace Go.Proofs.Ythoknkogdldgcaa
open Go Go.AM Go.RowKit

theorem rsplit_loop {v : PV} {l : List Int} (hv : LV ic v l) : ∀ (rest pre : List Int) (vl vh : PV) (e : EC) (st : St), l = pre ++ rest → l.length ≤ 17592186044416 →
    e.get 0 = some v → e.get 4 = some vl → e.get 5 = some vh → e.get 6 = some (.int .i64 pre.length) → AccT 1 st vl ((pre.filter fun n => decide (n < 0)).map ic) → AccT 1 st vh ((pre.filter fun n => !decide (n < 0)).map ic) → (∀ u, tokOf vh = some u → tokOf vl ≠ some u) →
    V T (PE fun x e' st' => x = .exit 0 ∧ ∃ vl' vh', e' = .put 4 vl' (.put 5 vh' .nil) ∧ AccT 1 st' vl' ((l.filter fun n => decide (n < 0)).map ic) ∧ AccT 1 st' vh' ((l.filter fun n => !decide (n < 0)).map ic)) [.code (.loop lp_rambleref01_Sum_1)] .normal e st := by
  intro rest
  induction rest with
  | nil =>
    intro pre vl vh e st hl hb h0 h4 h5 h6 hA hB hd
    refine V_less (.put 0 v (.put 4 vl (.put 5 vh (.put 6 (.int .i64 pre.length) .nil)))) (less_put h0 (less_put h4 (less_put h5 (less_put h6 less_nil)))) (V_unroll ?_)
    repeat' first
      | refine O_lenL rfl hv ?_
      | refine V_O rfl ?_
      | refine O_step rfl ?_
      | refine O_nil' ?_
      | refine V_cT rfl rfl ?_
      | refine V_cF rfl rfl ?_
      | refine V_cEq rfl rfl ?_
      | refine V_cNe rfl rfl ?_
      | refine V_cB rfl rfl (fun _ => ?_) (fun _ => ?_)
      | refine O_gT' rfl ?_
      | refine O_gU' rfl ?_
      | refine O_gF' rfl rfl ?_
      | refine O_gEq rfl ?_
      | refine O_gNe rfl ?_
      | refine O_gS rfl (fun _ => ?_) (fun _ => ?_)
      | refine V_fin rfl rfl (Pl.view (by (repeat' (first | exact Pl.int _ _ | exact Pl.bool _ | exact Pl.str _ | exact Pl.nilSl | exact pl_nil | refine pl_cons ?_ ?_ | refine Pl.tuple _ ?_ | refine Pl.agg _ ?_ | assumption)); first | done | fail)) ?_
      | refine V_finN rfl rfl (Pl.view (by (repeat' (first | exact Pl.int _ _ | exact Pl.bool _ | exact Pl.str _ | exact Pl.nilSl | exact pl_nil | refine pl_cons ?_ ?_ | refine Pl.tuple _ ?_ | refine Pl.agg _ ?_ | assumption)); first | done | fail)) ?_
      | refine V_D rfl ?_
      | refine D_step rfl ?_
      | refine D_nil' ?_
      | refine D_gT' rfl ?_
      | refine D_gU' rfl ?_
      | refine D_gF' rfl rfl ?_
      | refine D_gS rfl (fun _ => ?_) (fun _ => ?_)
    · rename_i h
      subst hl
      simp at h
    · refine V_less (.put 4 vl (.put 5 vh .nil)) (less_put rfl (less_put rfl less_nil)) (V_endP rfl ⟨rfl, vl, vh, rfl, ?_, ?_⟩)
      · subst hl; simpa using hA
      · subst hl; simpa using hB
  | cons n rest ih =>
    intro pre vl vh e st hl hb h0 h4 h5 h6 hA hB hd
    refine V_less (.put 0 v (.put 4 vl (.put 5 vh (.put 6 (.int .i64 pre.length) .nil)))) (less_put h0 (less_put h4 (less_put h5 (less_put h6 less_nil)))) (V_unroll ?_)
    have hn : l[(pre.length : Int).toNat]? = some n := by subst hl; simp
    have hlen : pre.length < l.length := by subst hl; simp
    have hw : IntKind.i64.wrap (pre.length + 1) = ((pre ++ [n]).length : Int) := by rw [wr (by unfold R64; omega)]; simp
    have hf1 := List.length_filter_le (fun n => decide (n < 0)) pre
    have hf2 := List.length_filter_le (fun n => !decide (n < 0)) pre
    obtain ⟨wl, stl, a1, a2, a3, a4, a5, a6⟩ := hA.append (bytes := 8) (src := [[.int .i64 n]]) (by simp) (by simp [roomLen]; omega)
    obtain ⟨wh, sth, b1, b2, b3, b4, b5, b6⟩ := hB.append (bytes := 8) (src := [[.int .i64 n]]) (by simp) (by simp [roomLen]; omega)
    have hd' : ∀ u, tokOf vl = some u → tokOf vh ≠ some u := fun u h1 h2 => hd u h2 h1
    repeat' first
      | refine O_lenL rfl hv ?_
      | refine O_idxL n rfl hv rfl (by omega) hn rfl ?_
      | refine O_append rfl rfl rfl rfl (by decide) (by decide) a1 ?_
      | refine O_append rfl rfl rfl rfl (by decide) (by decide) b1 ?_
      | refine V_O rfl ?_
      | refine O_step rfl ?_
      | refine O_nil' ?_
      | refine V_cT rfl rfl ?_
      | refine V_cF rfl rfl ?_
      | refine V_cEq rfl rfl ?_
      | refine V_cNe rfl rfl ?_
      | refine V_cB rfl rfl (fun _ => ?_) (fun _ => ?_)
      | refine O_gT' rfl ?_
      | refine O_gU' rfl ?_
      | refine O_gF' rfl rfl ?_
      | refine O_gEq rfl ?_
      | refine O_gNe rfl ?_
      | refine O_gS rfl (fun _ => ?_) (fun _ => ?_)
      | refine V_fin rfl rfl (Pl.view (by (repeat' (first | exact Pl.int _ _ | exact Pl.bool _ | exact Pl.str _ | exact Pl.nilSl | exact pl_nil | refine pl_cons ?_ ?_ | refine Pl.tuple _ ?_ | refine Pl.agg _ ?_ | assumption)); first | done | fail)) ?_
      | refine V_finN rfl rfl (Pl.view (by (repeat' (first | exact Pl.int _ _ | exact Pl.bool _ | exact Pl.str _ | exact Pl.nilSl | exact pl_nil | refine pl_cons ?_ ?_ | refine Pl.tuple _ ?_ | refine Pl.agg _ ?_ | assumption)); first | done | fail)) ?_
      | refine V_D rfl ?_
      | refine D_step rfl ?_
      | refine D_nil' ?_
      | refine D_gT' rfl ?_
      | refine D_gU' rfl ?_
      | refine D_gF' rfl rfl ?_
      | refine D_gS rfl (fun _ => ?_) (fun _ => ?_)
    · rename_i h1 h2
      have h2' : n < 0 := by simpa using h2
      exact ih (pre ++ [n]) wl vh _ stl (by subst hl; simp) hb rfl rfl rfl (by show some (PV.int .i64 (IntKind.i64.wrap (pre.length + 1))) = _; rw [hw])
        (by rw [List.filter_append]; simpa [h2', ic] using a2) (by rw [List.filter_append]; simpa [h2'] using hB.keep a4 a6 (hB.apart a5 hd)) (hB.apart a5 hd)
    · rename_i h1 h2
      have h2' : ¬ n < 0 := by simpa using h2
      exact ih (pre ++ [n]) vl wh _ sth (by subst hl; simp) hb rfl rfl rfl (by show some (PV.int .i64 (IntKind.i64.wrap (pre.length + 1))) = _; rw [hw])
        (by rw [List.filter_append]; simpa [h2'] using hA.keep b4 b6 (hA.apart b5 hd')) (by rw [List.filter_append]; simpa [h2', ic] using b2) (fun u h3 h4 => hA.apart b5 hd' u h4 h3)
    · rename_i h
      exfalso
      simp at h
      omega

theorem sum_neg : ∀ l : List Int, (∀ n ∈ l, n < 0) → l.sum ≤ 0
  | [], _ => by simp
  | n :: l, h => by
    have h1 := h n (by simp)
    have h2 := sum_neg l (fun m hm => h m (by simp [hm]))
    simp only [List.sum_cons]; omega
theorem sum_pos : ∀ l : List Int, (∀ n ∈ l, 0 ≤ n) → 0 ≤ l.sum
  | [], _ => by simp
  | n :: l, h => by
    have h1 := h n (by simp)
    have h2 := sum_pos l (fun m hm => h m (by simp [hm]))
    simp only [List.sum_cons]; omega
def rsumP (st : St) (tot : Int) : EX → EC → St → Prop := fun x e' st' => st' = st ∧ ((x = .exit 2 ∧ R64 tot ∧ e' = .put 7 (.int .i64 tot) .nil) ∨ (x = .ret ∧ ¬ R64 tot ∧ e' = .put 2 (.int .i64 0) (.put 3 (.int .i64 7) .nil)))
set_option maxHeartbeats 4000000 in
theorem rsum_loop : ∀ (N : Nat) (lows highs : List Int) (s : Int) (vl vh : PV) (e : EC) (st : St), lows.length + highs.length = N → (∀ n ∈ lows, R64 n ∧ n < 0) → (∀ n ∈ highs, R64 n ∧ 0 ≤ n) → R64 s →
    e.get 4 = some vl → e.get 5 = some vh → e.get 7 = some (.int .i64 s) → Win 1 st vl (lows.map ic) → Win 1 st vh (highs.map ic) →
    V T (PE (rsumP st (s + lows.sum + highs.sum))) [.code (.loop lp_rambleref01_Sum_0)] .normal e st := by
  intro N
  induction N with
  | zero =>
    intro lows highs s vl vh e st hN hlo hhi hs h4 h5 h7 hA hB
    have e1 : lows = [] := List.length_eq_zero_iff.1 (by omega)
    have e2 : highs = [] := List.length_eq_zero_iff.1 (by omega)
    subst e1 e2
    refine V_less (.put 4 vl (.put 5 vh (.put 7 (.int .i64 s) .nil))) (less_put h4 (less_put h5 (less_put h7 less_nil))) (V_unroll ?_)
    repeat' first
      | refine O_lenW rfl hA ?_
      | refine O_lenW rfl hB ?_
      | refine V_O rfl ?_
      | refine O_step rfl ?_
      | refine O_nil' ?_
      | refine V_cT rfl rfl ?_
      | refine V_cF rfl rfl ?_
      | refine V_cEq rfl rfl ?_
      | refine V_cNe rfl rfl ?_
      | refine V_cB rfl rfl (fun _ => ?_) (fun _ => ?_)
      | refine O_gT' rfl ?_
      | refine O_gU' rfl ?_
      | refine O_gF' rfl rfl ?_
      | refine O_gEq rfl ?_
      | refine O_gNe rfl ?_
      | refine O_gS rfl (fun _ => ?_) (fun _ => ?_)
      | refine V_fin rfl rfl (Pl.view (by (repeat' (first | exact Pl.int _ _ | exact Pl.bool _ | exact Pl.str _ | exact Pl.nilSl | exact pl_nil | refine pl_cons ?_ ?_ | refine Pl.tuple _ ?_ | refine Pl.agg _ ?_ | assumption)); first | done | fail)) ?_
      | refine V_finN rfl rfl (Pl.view (by (repeat' (first | exact Pl.int _ _ | exact Pl.bool _ | exact Pl.str _ | exact Pl.nilSl | exact pl_nil | refine pl_cons ?_ ?_ | refine Pl.tuple _ ?_ | refine Pl.agg _ ?_ | assumption)); first | done | fail)) ?_
      | refine V_D rfl ?_
      | refine D_step rfl ?_
      | refine D_nil' ?_
      | refine D_gT' rfl ?_
      | refine D_gU' rfl ?_
      | refine D_gF' rfl rfl ?_
      | refine D_gS rfl (fun _ => ?_) (fun _ => ?_)
    all_goals try (rename_i h; simp at h; done)
    all_goals try (rename_i h1 h2; simp at h1 h2; done)
    refine V_less (.put 7 (.int .i64 s) .nil) (less_put rfl less_nil) (V_endP rfl ⟨rfl, .inl ⟨rfl, by simpa using hs, by simp⟩⟩)
  | succ N ih =>
    intro lows highs s vl vh e st hN hlo hhi hs h4 h5 h7 hA hB
    refine V_less (.put 4 vl (.put 5 vh (.put 7 (.int .i64 s) .nil))) (less_put h4 (less_put h5 (less_put h7 less_nil))) (V_unroll ?_)
    have ret : ∀ (k : List Fr) (x : EX) (e' : EC), adv 200 k x = ([], .ret) → ¬ R64 (s + lows.sum + highs.sum) → e'.get 2 = some (.int .i64 0) → e'.get 3 = some (.int .i64 7) → V T (PE (rsumP st (s + lows.sum + highs.sum))) k x e' st := fun k x e' ha hR g2 g3 =>
      V_less (.put 2 (.int .i64 0) (.put 3 (.int .i64 7) .nil)) (less_put g2 (less_put g3 less_nil)) (V_endP ha ⟨rfl, .inr ⟨rfl, hR, rfl⟩⟩)
    cases lows with
    | cons n ls =>
      have hn := hlo n (by simp)
      have hls := sum_neg ls (fun m hm => (hlo m (by simp [hm])).2)
      obtain ⟨vl', c1, c2⟩ := hA.tail (k := .i64)
      have hadd := run_rAdd s n hs hn.1
      by_cases hc : 0 ≤ s ∨ highs.length = 0
      · by_cases hr : R64 (s + n)
        · rw [two_in hr] at hadd
          have fin : ∀ (k : List Fr) (x : EX) (e' : EC), adv 200 k x = ([.code (.loop lp_rambleref01_Sum_0)], .normal) → e'.get 4 = some vl' → e'.get 5 = some vh → e'.get 7 = some (.int .i64 (s + n)) → V T (PE (rsumP st (s + (n :: ls).sum + highs.sum))) k x e' st := fun k x e' ha g4 g5 g7 => V_adv ha (by
            have := ih ls highs (s + n) vl' vh e' st (by simp at hN; omega) (fun m hm => hlo m (by simp [hm])) hhi hr g4 g5 g7 c2 hB
            rwa [Int.add_assoc s n, ← List.sum_cons] at this)
          clear ih
          repeat' first
            | refine O_lenW rfl hA ?_
            | refine O_lenW rfl hB ?_
            | refine O_headW rfl rfl hA rfl rfl (fun _ => ?_)
            | refine O_callP rfl rfl (viewL_pl (by (repeat' (first | exact Pl.int _ _ | exact Pl.bool _ | exact Pl.str _ | exact Pl.nilSl | exact pl_nil | refine pl_cons ?_ ?_ | refine Pl.tuple _ ?_ | refine Pl.agg _ ?_ | assumption)); first | done | fail)) hadd ?_
            | refine D_slice _ rfl rfl rfl rfl c1 ?_
            | refine fin _ _ _ rfl rfl rfl rfl
            | refine V_O rfl ?_
            | refine O_step rfl ?_
            | refine O_nil' ?_
            | refine V_cT rfl rfl ?_
            | refine V_cF rfl rfl ?_
            | refine V_cEq rfl rfl ?_
            | refine V_cNe rfl rfl ?_
            | refine V_cB rfl rfl (fun _ => ?_) (fun _ => ?_)
            | refine O_gT' rfl ?_
            | refine O_gU' rfl ?_
            | refine O_gF' rfl rfl ?_
            | refine O_gEq rfl ?_
            | refine O_gNe rfl ?_
            | refine O_gS rfl (fun _ => ?_) (fun _ => ?_)
            | refine V_fin rfl rfl (Pl.view (by (repeat' (first | exact Pl.int _ _ | exact Pl.bool _ | exact Pl.str _ | exact Pl.nilSl | exact pl_nil | refine pl_cons ?_ ?_ | refine Pl.tuple _ ?_ | refine Pl.agg _ ?_ | assumption)); first | done | fail)) ?_
            | refine V_finN rfl rfl (Pl.view (by (repeat' (first | exact Pl.int _ _ | exact Pl.bool _ | exact Pl.str _ | exact Pl.nilSl | exact pl_nil | refine pl_cons ?_ ?_ | refine Pl.tuple _ ?_ | refine Pl.agg _ ?_ | assumption)); first | done | fail)) ?_
            | refine V_D rfl ?_
            | refine D_step rfl ?_
            | refine D_nil' ?_
            | refine D_gT' rfl ?_
            | refine D_gU' rfl ?_
            | refine D_gF' rfl rfl ?_
            | refine D_gS rfl (fun _ => ?_) (fun _ => ?_)
          all_goals exfalso
          all_goals clear fin ret hA hB hadd c1 c2 hlo hhi
          all_goals simp only [decide_eq_true_eq, decide_eq_false_iff_not, List.length_map, List.length_cons, List.length_nil, Bool.not_true, Bool.not_false, List.map_cons, List.map_nil, Int.natCast_add, Int.cast_ofNat_Int, Int.natCast_zero] at *
          all_goals omega
        · have hh : highs.sum = 0 := by
            rcases hc with hc | hc
            · exfalso; unfold R64 at *; omega
            · rw [List.length_eq_zero_iff.1 hc]; rfl
          have hneg : s < 0 := by unfold R64 at *; omega
          rw [two_out hr] at hadd
          have hR : ¬ R64 (s + (n :: ls).sum + highs.sum) := by
            rw [hh, List.sum_cons]; unfold R64 at *; omega
          clear ih
          repeat' first
            | refine O_lenW rfl hA ?_
            | refine O_lenW rfl hB ?_
            | refine O_headW rfl rfl hA rfl rfl (fun _ => ?_)
            | refine O_callP rfl rfl (viewL_pl (by (repeat' (first | exact Pl.int _ _ | exact Pl.bool _ | exact Pl.str _ | exact Pl.nilSl | exact pl_nil | refine pl_cons ?_ ?_ | refine Pl.tuple _ ?_ | refine Pl.agg _ ?_ | assumption)); first | done | fail)) hadd ?_
            | refine ret _ _ _ rfl hR rfl rfl
            | refine V_O rfl ?_
            | refine O_step rfl ?_
            | refine O_nil' ?_
            | refine V_cT rfl rfl ?_
            | refine V_cF rfl rfl ?_
            | refine V_cEq rfl rfl ?_
            | refine V_cNe rfl rfl ?_
            | refine V_cB rfl rfl (fun _ => ?_) (fun _ => ?_)
            | refine O_gT' rfl ?_
            | refine O_gU' rfl ?_
            | refine O_gF' rfl rfl ?_
            | refine O_gEq rfl ?_
            | refine O_gNe rfl ?_
            | refine O_gS rfl (fun _ => ?_) (fun _ => ?_)
            | refine V_fin rfl rfl (Pl.view (by (repeat' (first | exact Pl.int _ _ | exact Pl.bool _ | exact Pl.str _ | exact Pl.nilSl | exact pl_nil | refine pl_cons ?_ ?_ | refine Pl.tuple _ ?_ | refine Pl.agg _ ?_ | assumption)); first | done | fail)) ?_
            | refine V_finN rfl rfl (Pl.view (by (repeat' (first | exact Pl.int _ _ | exact Pl.bool _ | exact Pl.str _ | exact Pl.nilSl | exact pl_nil | refine pl_cons ?_ ?_ | refine Pl.tuple _ ?_ | refine Pl.agg _ ?_ | assumption)); first | done | fail)) ?_
            | refine V_D rfl ?_
            | refine D_step rfl ?_
            | refine D_nil' ?_
            | refine D_gT' rfl ?_
            | refine D_gU' rfl ?_
            | refine D_gF' rfl rfl ?_
            | refine D_gS rfl (fun _ => ?_) (fun _ => ?_)
          all_goals exfalso
          all_goals clear ret hA hB hadd c1 c2 hlo hhi hR hr
          all_goals simp only [decide_eq_true_eq, decide_eq_false_iff_not, List.length_map, List.length_cons, List.length_nil, Bool.not_true, Bool.not_false, List.map_cons, List.map_nil, Int.natCast_add, Int.cast_ofNat_Int, Int.natCast_zero] at *
          all_goals omega
      · cases highs with
        | nil => exact absurd (.inr rfl) hc
        | cons m hs' =>
          have hm := hhi m (by simp)
          obtain ⟨vh', d1, d2⟩ := hB.tail (k := .i64)
          have hadd2 := run_rAdd s m hs hm.1
          have hsneg : s < 0 := by omega
          have hr : R64 (s + m) := by unfold R64 at *; omega
          rw [two_in hr] at hadd2
          have fin : ∀ (k : List Fr) (x : EX) (e' : EC), adv 200 k x = ([.code (.loop lp_rambleref01_Sum_0)], .normal) → e'.get 4 = some vl → e'.get 5 = some vh' → e'.get 7 = some (.int .i64 (s + m)) → V T (PE (rsumP st (s + (n :: ls).sum + (m :: hs').sum))) k x e' st := fun k x e' ha g4 g5 g7 => V_adv ha (by
            have := ih (n :: ls) hs' (s + m) vl vh' e' st (by simp at hN ⊢; omega) hlo (fun q hq => hhi q (by simp [hq])) hr g4 g5 g7 hA d2
            rwa [show s + m + (n :: ls).sum + hs'.sum = s + (n :: ls).sum + (m :: hs').sum by simp only [List.sum_cons]; omega] at this)
          clear ih
          repeat' first
            | refine O_lenW rfl hA ?_
            | refine O_lenW rfl hB ?_
            | refine O_headW rfl rfl hB rfl rfl (fun _ => ?_)
            | refine O_callP rfl rfl (viewL_pl (by (repeat' (first | exact Pl.int _ _ | exact Pl.bool _ | exact Pl.str _ | exact Pl.nilSl | exact pl_nil | refine pl_cons ?_ ?_ | refine Pl.tuple _ ?_ | refine Pl.agg _ ?_ | assumption)); first | done | fail)) hadd2 ?_
            | refine D_slice _ rfl rfl rfl rfl d1 ?_
            | refine fin _ _ _ rfl rfl rfl rfl
            | refine V_O rfl ?_
            | refine O_step rfl ?_
            | refine O_nil' ?_
            | refine V_cT rfl rfl ?_
            | refine V_cF rfl rfl ?_
            | refine V_cEq rfl rfl ?_
            | refine V_cNe rfl rfl ?_
            | refine V_cB rfl rfl (fun _ => ?_) (fun _ => ?_)
            | refine O_gT' rfl ?_
            | refine O_gU' rfl ?_
            | refine O_gF' rfl rfl ?_
            | refine O_gEq rfl ?_
            | refine O_gNe rfl ?_
            | refine O_gS rfl (fun _ => ?_) (fun _ => ?_)
            | refine V_fin rfl rfl (Pl.view (by (repeat' (first | exact Pl.int _ _ | exact Pl.bool _ | exact Pl.str _ | exact Pl.nilSl | exact pl_nil | refine pl_cons ?_ ?_ | refine Pl.tuple _ ?_ | refine Pl.agg _ ?_ | assumption)); first | done | fail)) ?_
            | refine V_finN rfl rfl (Pl.view (by (repeat' (first | exact Pl.int _ _ | exact Pl.bool _ | exact Pl.str _ | exact Pl.nilSl | exact pl_nil | refine pl_cons ?_ ?_ | refine Pl.tuple _ ?_ | refine Pl.agg _ ?_ | assumption)); first | done | fail)) ?_
            | refine V_D rfl ?_
            | refine D_step rfl ?_
            | refine D_nil' ?_
            | refine D_gT' rfl ?_
            | refine D_gU' rfl ?_
            | refine D_gF' rfl rfl ?_
            | refine D_gS rfl (fun _ => ?_) (fun _ => ?_)
          all_goals exfalso
          all_goals clear fin ret hA hB hadd hadd2 c1 c2 d1 d2 hlo hhi
          all_goals simp only [decide_eq_true_eq, decide_eq_false_iff_not, List.length_map, List.length_cons, List.length_nil, Bool.not_true, Bool.not_false, List.map_cons, List.map_nil, Int.natCast_add, Int.cast_ofNat_Int, Int.natCast_zero] at *
          all_goals omega
    | nil =>
      cases highs with
      | nil => simp at hN
      | cons m hs' =>
        have hm := hhi m (by simp)
        have hps := sum_pos hs' (fun q hq => (hhi q (by simp [hq])).2)
        obtain ⟨vh', d1, d2⟩ := hB.tail (k := .i64)
        have hadd2 := run_rAdd s m hs hm.1
        by_cases hr : R64 (s + m)
        · rw [two_in hr] at hadd2
          have fin : ∀ (k : List Fr) (x : EX) (e' : EC), adv 200 k x = ([.code (.loop lp_rambleref01_Sum_0)], .normal) → e'.get 4 = some vl → e'.get 5 = some vh' → e'.get 7 = some (.int .i64 (s + m)) → V T (PE (rsumP st (s + ([] : List Int).sum + (m :: hs').sum))) k x e' st := fun k x e' ha g4 g5 g7 => V_adv ha (by
            have := ih [] hs' (s + m) vl vh' e' st (by simp at hN ⊢; omega) hlo (fun q hq => hhi q (by simp [hq])) hr g4 g5 g7 hA d2
            rwa [show s + m + ([] : List Int).sum + hs'.sum = s + ([] : List Int).sum + (m :: hs').sum by simp only [List.sum_cons, List.sum_nil]; omega] at this)
          clear ih
          repeat' first
            | refine O_lenW rfl hA ?_
            | refine O_lenW rfl hB ?_
            | refine O_headW rfl rfl hB rfl rfl (fun _ => ?_)
            | refine O_callP rfl rfl (viewL_pl (by (repeat' (first | exact Pl.int _ _ | exact Pl.bool _ | exact Pl.str _ | exact Pl.nilSl | exact pl_nil | refine pl_cons ?_ ?_ | refine Pl.tuple _ ?_ | refine Pl.agg _ ?_ | assumption)); first | done | fail)) hadd2 ?_
            | refine D_slice _ rfl rfl rfl rfl d1 ?_
            | refine fin _ _ _ rfl rfl rfl rfl
            | refine V_O rfl ?_
            | refine O_step rfl ?_
            | refine O_nil' ?_
            | refine V_cT rfl rfl ?_
            | refine V_cF rfl rfl ?_
            | refine V_cEq rfl rfl ?_
            | refine V_cNe rfl rfl ?_
            | refine V_cB rfl rfl (fun _ => ?_) (fun _ => ?_)
            | refine O_gT' rfl ?_
            | refine O_gU' rfl ?_
            | refine O_gF' rfl rfl ?_
            | refine O_gEq rfl ?_
            | refine O_gNe rfl ?_
            | refine O_gS rfl (fun _ => ?_) (fun _ => ?_)
            | refine V_fin rfl rfl (Pl.view (by (repeat' (first | exact Pl.int _ _ | exact Pl.bool _ | exact Pl.str _ | exact Pl.nilSl | exact pl_nil | refine pl_cons ?_ ?_ | refine Pl.tuple _ ?_ | refine Pl.agg _ ?_ | assumption)); first | done | fail)) ?_
            | refine V_finN rfl rfl (Pl.view (by (repeat' (first | exact Pl.int _ _ | exact Pl.bool _ | exact Pl.str _ | exact Pl.nilSl | exact pl_nil | refine pl_cons ?_ ?_ | refine Pl.tuple _ ?_ | refine Pl.agg _ ?_ | assumption)); first | done | fail)) ?_
            | refine V_D rfl ?_
            | refine D_step rfl ?_
            | refine D_nil' ?_
            | refine D_gT' rfl ?_
            | refine D_gU' rfl ?_
            | refine D_gF' rfl rfl ?_
            | refine D_gS rfl (fun _ => ?_) (fun _ => ?_)
          all_goals exfalso
          all_goals clear fin ret hA hB hadd2 d1 d2 hlo hhi
          all_goals simp only [decide_eq_true_eq, decide_eq_false_iff_not, List.length_map, List.length_cons, List.length_nil, Bool.not_true, Bool.not_false, List.map_cons, List.map_nil, Int.natCast_add, Int.cast_ofNat_Int, Int.natCast_zero] at *
          all_goals omega
        · rw [two_out hr] at hadd2
          have hR : ¬ R64 (s + ([] : List Int).sum + (m :: hs').sum) := by
            simp only [List.sum_cons, List.sum_nil]; unfold R64 at *; omega
          clear ih
          repeat' first
            | refine O_lenW rfl hA ?_
            | refine O_lenW rfl hB ?_
            | refine O_headW rfl rfl hB rfl rfl (fun _ => ?_)
            | refine O_callP rfl rfl (viewL_pl (by (repeat' (first | exact Pl.int _ _ | exact Pl.bool _ | exact Pl.str _ | exact Pl.nilSl | exact pl_nil | refine pl_cons ?_ ?_ | refine Pl.tuple _ ?_ | refine Pl.agg _ ?_ | assumption)); first | done | fail)) hadd2 ?_
            | refine ret _ _ _ rfl hR rfl rfl
            | refine V_O rfl ?_
            | refine O_step rfl ?_
            | refine O_nil' ?_
            | refine V_cT rfl rfl ?_
            | refine V_cF rfl rfl ?_
            | refine V_cEq rfl rfl ?_
            | refine V_cNe rfl rfl ?_
            | refine V_cB rfl rfl (fun _ => ?_) (fun _ => ?_)
            | refine O_gT' rfl ?_
            | refine O_gU' rfl ?_
            | refine O_gF' rfl rfl ?_
            | refine O_gEq rfl ?_
            | refine O_gNe rfl ?_
            | refine O_gS rfl (fun _ => ?_) (fun _ => ?_)
            | refine V_fin rfl rfl (Pl.view (by (repeat' (first | exact Pl.int _ _ | exact Pl.bool _ | exact Pl.str _ | exact Pl.nilSl | exact pl_nil | refine pl_cons ?_ ?_ | refine Pl.tuple _ ?_ | refine Pl.agg _ ?_ | assumption)); first | done | fail)) ?_
            | refine V_finN rfl rfl (Pl.view (by (repeat' (first | exact Pl.int _ _ | exact Pl.bool _ | exact Pl.str _ | exact Pl.nilSl | exact pl_nil | refine pl_cons ?_ ?_ | refine Pl.tuple _ ?_ | refine Pl.agg _ ?_ | assumption)); first | done | fail)) ?_
            | refine V_D rfl ?_
            | refine D_step rfl ?_
            | refine D_nil' ?_
            | refine D_gT' rfl ?_
            | refine D_gU' rfl ?_
            | refine D_gF' rfl rfl ?_
            | refine D_gS rfl (fun _ => ?_) (fun _ => ?_)
          all_goals exfalso
          all_goals clear ret hA hB hadd2 d1 d2 hlo hhi hR hr
          all_goals simp only [decide_eq_true_eq, decide_eq_false_iff_not, List.length_map, List.length_cons, List.length_nil, Bool.not_true, Bool.not_false, List.map_cons, List.map_nil, Int.natCast_add, Int.cast_ofNat_Int, Int.natCast_zero] at *
          all_goals omega
end Go.Proofs.Ythoknkogdldgcaa


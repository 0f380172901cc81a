/- rambleref03.form, rambleref03.Key. -/
import Derived.Test.YtfdebgebnkbagaaDoorOrdP
import Derived.Test.YtfdebgebnkbagaaDoorCodC
set_option linter.unusedVariables false
set_option linter.unusedSimpArgs false
namespace Go.Proofs.YtfdebgebnkbagaaDoor
open Go Go.AM Go.RowKit

theorem acc_fin {st : St} {v : PV} {b : List UInt8} (h : AccT 1 st v (byteCells b)) (hne : b ≠ []) : View true st.get v (.sl (byteCells b) false) := by
  rcases h with ⟨_, h⟩ | ⟨t, g, rfl, hg, _⟩
  · exact absurd h (by simpa [byteCells] using hne)
  · exact view_osl0 hg (.inl rfl) rfl (pl_bytes _)
def stF (n : Int) (s : List UInt8) (k : Int) (p : PV) : St := ⟨0, 1, [(0, .var [.int .i64 k, .int .i64 n, .str s, p])]⟩
def formP (S : St) (c : List PV) (b : List UInt8) : EX → EC → St → Prop := fun x e' st' => x = .exit 1 ∧ ∃ v', e' = .put 3 v' .nil ∧ AccT 1 st' v' (byteCells b)
theorem form_loop (k n : Int) (s : List UInt8) (p : PV) (hs : s.length ≤ 1000) : ∀ (rest pre : List UInt8) (e : EC) (st : St) (v : PV), s = pre ++ rest → AccT 1 st v (byteCells (2 :: esc pre)) → st.get 0 = some (.var [.int .i64 k, .int .i64 n, .str s, p]) → tokOf v ≠ some 0 → e.get 1 = some (.ptr 0 0) → e.get 3 = some v → e.get 4 = some (.int .i64 pre.length) →
    V T (PE (formP st [] (2 :: esc s))) [.code (.loop lp_rambleref03_form_0)] .normal e st := by
  intro rest
  induction rest with
  | nil =>
    intro pre e st v hsp hA hg0 htk h1 h3 h4
    have hlt : decide ((pre.length : Int) < s.length) = false := decide_eq_false (by subst hsp; simp)
    have hps : pre = s := by rw [hsp]; simp
    have out : ∀ (fr : List Fr) (x : EX) (e' : EC), adv 200 fr x = ([], .exit 1) → e'.get 3 = some v → V T (PE (formP st [] (2 :: esc s))) fr x e' st := fun fr x e' hadv g3 =>
      V_less (.put 3 v .nil) (less_put g3 less_nil) (V_endP hadv ⟨rfl, v, rfl, by rw [← hps]; exact hA⟩)
    refine V_less (.put 1 _ (.put 3 _ (.put 4 _ .nil))) (less_put h1 (less_put h3 (less_put h4 less_nil))) (V_unroll ?_)
    repeat' first | refine V_cH hlt rfl rfl ?_ | refine O_loadV rfl hg0 rfl ?_ | refine out _ _ _ rfl rfl | refine V_O rfl ?_ | refine O_step rfl ?_ | refine O_nil' ?_ | refine V_cT rfl rfl ?_ | refine V_cF rfl rfl ?_ | refine V_cEq rfl rfl ?_ | refine V_cNe rfl rfl ?_ | refine V_cB rfl rfl (fun _ => ?_) (fun _ => ?_) | refine O_gT' rfl ?_ | refine O_gU' rfl ?_ | refine O_gF' rfl rfl ?_ | refine O_gEq rfl ?_ | refine O_gNe rfl ?_ | refine O_gS rfl (fun _ => ?_) (fun _ => ?_) | refine V_fin rfl rfl (Pl.view (by (repeat' (first | exact Pl.int _ _ | exact Pl.bool _ | exact Pl.str _ | exact Pl.nilSl | exact pl_nil | refine pl_cons ?_ ?_ | refine Pl.tuple _ ?_ | refine Pl.agg _ ?_ | refine Pl.func _ _ ?_ | assumption | refine Pl.iptr _ _ ?_ | exact pll_nil | refine pll_cons ?_ ?_ | refine Pl.sl _ _ ?_)); first | done | fail)) ?_ | refine V_finN rfl rfl (Pl.view (by (repeat' (first | exact Pl.int _ _ | exact Pl.bool _ | exact Pl.str _ | exact Pl.nilSl | exact pl_nil | refine pl_cons ?_ ?_ | refine Pl.tuple _ ?_ | refine Pl.agg _ ?_ | refine Pl.func _ _ ?_ | assumption | refine Pl.iptr _ _ ?_ | exact pll_nil | refine pll_cons ?_ ?_ | refine Pl.sl _ _ ?_)); first | done | fail)) ?_ | refine V_D rfl ?_ | refine D_step rfl ?_ | refine D_nil' ?_ | refine D_gT' rfl ?_ | refine D_gU' rfl ?_ | refine D_gF' rfl rfl ?_ | refine D_gS rfl (fun _ => ?_) (fun _ => ?_)
  | cons c rest ih =>
    intro pre e st v hsp hA hg0 htk h1 h3 h4
    have hlt : decide ((pre.length : Int) < s.length) = true := decide_eq_true (by subst hsp; simp; omega)
    have hpl : pre.length + 1 ≤ s.length := by subst hsp; simp
    have hc : s[(pre.length : Int).toNat]? = some c := by subst hsp; simp
    have hw : IntKind.i64.wrap ((pre.length : Int) + 1) = ((pre ++ [c]).length : Int) := by rw [wrap_i64]; simp; omega
    have hel := esc_le pre
    have hpre : pre.length ≤ s.length := by omega
    obtain ⟨v2, st2, k1, k2, k3⟩ := hA.grow (bytes := 1) (src := byteCells [c]) (by simp [byteCells]) (by simp only [byteCells_length, roomLen]; simp; omega)
    rw [← byteCells_append] at k2
    have hlt0 : 0 < st.next ∨ True := .inr trivial
    have hg2 : st2.get 0 = some (.var [.int .i64 k, .int .i64 n, .str s, p]) := by
      by_cases h0 : 0 < st.next
      · rw [k3.2.2.2 0 h0 htk]; exact hg0
      · exfalso
        rcases hA with ⟨_, h⟩ | ⟨t, g, rfl, hg, hlt⟩
        · simp [byteCells] at h
        · omega
    have htk2 : tokOf v2 ≠ some 0 := by
      have h0 : 0 < st.next := by
        rcases hA with ⟨_, h⟩ | ⟨t, g, rfl, hg, hlt⟩
        · simp [byteCells] at h
        · omega
      rcases k3.2.2.1 with h | ⟨m, h, hm⟩
      · rw [h]; exact htk
      · rw [h]; intro e; injection e; omega
    by_cases hc0 : c = 0
    · subst hc0
      have he0 : decide (((0 : UInt8).toNat : Int) = 0) = true := rfl
      obtain ⟨v3, st3, j1, j2, j3⟩ := k2.grow (bytes := 1) (src := byteCells [255]) (by simp [byteCells]) (by simp only [byteCells_length, roomLen]; simp; omega)
      rw [← byteCells_append] at j2
      have hesc : 2 :: esc pre ++ [0] ++ [255] = 2 :: esc (pre ++ [0]) := by rw [esc_append]; simp [esc]
      rw [hesc] at j2
      have hn2 : 0 < st2.next := by
        rcases k2 with ⟨_, h⟩ | ⟨t, g, rfl, hg, hlt⟩
        · simp [byteCells] at h
        · omega
      have hg3 : st3.get 0 = some (.var [.int .i64 k, .int .i64 n, .str s, p]) := by rw [j3.2.2.2 0 hn2 htk2]; exact hg2
      have htk3 : tokOf v3 ≠ some 0 := by
        rcases j3.2.2.1 with h | ⟨m, h, hm⟩
        · rw [h]; exact htk2
        · rw [h]; intro e; injection e; omega
      have fin : ∀ (fr : List Fr) (x : EX) (e' : EC), adv 200 fr x = ([.code (.loop lp_rambleref03_form_0)], .normal) → e'.get 1 = some (.ptr 0 0) → e'.get 3 = some v3 → e'.get 4 = some (.int .i64 (IntKind.i64.wrap ((pre.length : Int) + 1))) → V T (PE (formP st [] (2 :: esc s))) fr x e' st3 := fun fr x e' hadv g1 g3 g4 => V_adv hadv (by
        rw [hw] at g4
        exact V_monoP (ih (pre ++ [0]) e' st3 v3 (by rw [hsp]; simp) j2 hg3 htk3 g1 g3 g4) (fun x e2 s2 h => h))
      refine V_less (.put 1 _ (.put 3 _ (.put 4 _ .nil))) (less_put h1 (less_put h3 (less_put h4 less_nil))) (V_unroll ?_)
      clear ih
      repeat' first | refine V_cHT hlt rfl rfl ?_ | refine V_cHT he0 rfl rfl ?_ | refine O_loadV rfl hg0 rfl ?_ | refine O_loadV rfl hg2 rfl ?_ | refine O_chr 0 rfl rfl (by omega) hc ?_ | refine O_append (src := byteCells [0]) rfl rfl rfl (okEls_bytes _) (by decide) (by decide) k1 ?_ | refine O_append (src := byteCells [255]) rfl rfl rfl (okEls_bytes _) (by decide) (by decide) j1 ?_ | refine fin _ _ _ rfl rfl rfl rfl | refine V_O rfl ?_ | refine O_step rfl ?_ | refine O_nil' ?_ | refine V_cT rfl rfl ?_ | refine V_cF rfl rfl ?_ | refine V_cEq rfl rfl ?_ | refine V_cNe rfl rfl ?_ | refine V_cB rfl rfl (fun _ => ?_) (fun _ => ?_) | refine O_gT' rfl ?_ | refine O_gU' rfl ?_ | refine O_gF' rfl rfl ?_ | refine O_gEq rfl ?_ | refine O_gNe rfl ?_ | refine O_gS rfl (fun _ => ?_) (fun _ => ?_) | refine V_fin rfl rfl (Pl.view (by (repeat' (first | exact Pl.int _ _ | exact Pl.bool _ | exact Pl.str _ | exact Pl.nilSl | exact pl_nil | refine pl_cons ?_ ?_ | refine Pl.tuple _ ?_ | refine Pl.agg _ ?_ | refine Pl.func _ _ ?_ | assumption | refine Pl.iptr _ _ ?_ | exact pll_nil | refine pll_cons ?_ ?_ | refine Pl.sl _ _ ?_)); first | done | fail)) ?_ | refine V_finN rfl rfl (Pl.view (by (repeat' (first | exact Pl.int _ _ | exact Pl.bool _ | exact Pl.str _ | exact Pl.nilSl | exact pl_nil | refine pl_cons ?_ ?_ | refine Pl.tuple _ ?_ | refine Pl.agg _ ?_ | refine Pl.func _ _ ?_ | assumption | refine Pl.iptr _ _ ?_ | exact pll_nil | refine pll_cons ?_ ?_ | refine Pl.sl _ _ ?_)); first | done | fail)) ?_ | refine V_D rfl ?_ | refine D_step rfl ?_ | refine D_nil' ?_ | refine D_gT' rfl ?_ | refine D_gU' rfl ?_ | refine D_gF' rfl rfl ?_ | refine D_gS rfl (fun _ => ?_) (fun _ => ?_)
    · have he0 : decide ((c.toNat : Int) = 0) = false := decide_eq_false (by have := u8_pos hc0; omega)
      have hesc : 2 :: esc pre ++ [c] = 2 :: esc (pre ++ [c]) := by rw [esc_append]; simp [esc, hc0]
      rw [hesc] at k2
      have fin : ∀ (fr : List Fr) (x : EX) (e' : EC), adv 200 fr x = ([.code (.loop lp_rambleref03_form_0)], .normal) → e'.get 1 = some (.ptr 0 0) → e'.get 3 = some v2 → e'.get 4 = some (.int .i64 (IntKind.i64.wrap ((pre.length : Int) + 1))) → V T (PE (formP st [] (2 :: esc s))) fr x e' st2 := fun fr x e' hadv g1 g3 g4 => V_adv hadv (by
        rw [hw] at g4
        exact V_monoP (ih (pre ++ [c]) e' st2 v2 (by rw [hsp]; simp) k2 hg2 htk2 g1 g3 g4) (fun x e2 s2 h => h))
      refine V_less (.put 1 _ (.put 3 _ (.put 4 _ .nil))) (less_put h1 (less_put h3 (less_put h4 less_nil))) (V_unroll ?_)
      clear ih
      repeat' first | refine V_cHT hlt rfl rfl ?_ | refine V_cH he0 rfl rfl ?_ | refine O_loadV rfl hg0 rfl ?_ | refine O_loadV rfl hg2 rfl ?_ | refine O_chr c rfl rfl (by omega) hc ?_ | refine O_append (src := byteCells [c]) rfl rfl rfl (okEls_bytes _) (by decide) (by decide) k1 ?_ | refine fin _ _ _ rfl rfl rfl rfl | refine V_O rfl ?_ | refine O_step rfl ?_ | refine O_nil' ?_ | refine V_cT rfl rfl ?_ | refine V_cF rfl rfl ?_ | refine V_cEq rfl rfl ?_ | refine V_cNe rfl rfl ?_ | refine V_cB rfl rfl (fun _ => ?_) (fun _ => ?_) | refine O_gT' rfl ?_ | refine O_gU' rfl ?_ | refine O_gF' rfl rfl ?_ | refine O_gEq rfl ?_ | refine O_gNe rfl ?_ | refine O_gS rfl (fun _ => ?_) (fun _ => ?_) | refine V_fin rfl rfl (Pl.view (by (repeat' (first | exact Pl.int _ _ | exact Pl.bool _ | exact Pl.str _ | exact Pl.nilSl | exact pl_nil | refine pl_cons ?_ ?_ | refine Pl.tuple _ ?_ | refine Pl.agg _ ?_ | refine Pl.func _ _ ?_ | assumption | refine Pl.iptr _ _ ?_ | exact pll_nil | refine pll_cons ?_ ?_ | refine Pl.sl _ _ ?_)); first | done | fail)) ?_ | refine V_finN rfl rfl (Pl.view (by (repeat' (first | exact Pl.int _ _ | exact Pl.bool _ | exact Pl.str _ | exact Pl.nilSl | exact pl_nil | refine pl_cons ?_ ?_ | refine Pl.tuple _ ?_ | refine Pl.agg _ ?_ | refine Pl.func _ _ ?_ | assumption | refine Pl.iptr _ _ ?_ | exact pll_nil | refine pll_cons ?_ ?_ | refine Pl.sl _ _ ?_)); first | done | fail)) ?_ | refine V_D rfl ?_ | refine D_step rfl ?_ | refine D_nil' ?_ | refine D_gT' rfl ?_ | refine D_gU' rfl ?_ | refine D_gF' rfl rfl ?_ | refine D_gS rfl (fun _ => ?_) (fun _ => ?_)
set_option maxHeartbeats 4000000 in
theorem run_form3 {v : Val} {cs : List PV} (hv : VC v cs) (hg : Good v) : T.R (.call n_rambleref03_form [.agg cs] (.sl (byteCells (formV v)) false)) := by
  obtain ⟨k, n, s, l⟩ := v
  obtain ⟨hk, hn, hs, p, rfl, hp⟩ := hv.open
  have hsl := may_len hg.1
  have h8 := run_eight3 hn
  have pl8 := (BV.sl (be 8 (ord64 n)) false).pl
  have plp := hp.pl
  have hfull : ∀ (st : St) (c d : List UInt8), d ≠ [] → c.length + d.length ≤ 140737488355328 → appendTo st 1 1 (.sl (byteCells c) true) (byteCells d) = some (.osl st.next 0 0 (byteCells (c ++ d)).length false, st.new (.row 0 1 (byteCells (c ++ d)) true)) := fun st c d hd hl => by
    rw [appendTo_full (by simpa [byteCells] using hd) (by simp only [byteCells_length, roomLen]; omega) (allOf_bytes _), byteCells_append, List.length_append]
  obtain ⟨kb, hkd⟩ : ∃ kb, UInt8.ofNat (k % 256).toNat = kb := ⟨_, rfl⟩
  have hkb := wrap8 k
  rw [hkd] at hkb
  have hkc : ∀ (st : St), (PV.sl [[.int .u8 (IntKind.u8.wrap k)]] true) = PV.sl (byteCells [kb]) true := fun st => by rw [hkb]
  have hf8 := fun st => hfull st [kb] (be 8 (ord64 n)) (by simp [be]) (by simp [be_len])
  have hf3 := fun st => hfull st [kb] [UInt8.ofNat (n % 256).toNat] (by simp) (by simp)
  rcases good_cases hg with ⟨rfl, _⟩ | ⟨rfl, _⟩ | ⟨rfl, _⟩ | ⟨rfl, _⟩ | ⟨rfl, _⟩
  · have hfv : formV (.mk 1 n s l) = [kb] ++ be 8 (ord64 n) := by simp only [formV, hkd]; simp
    rw [hfv]
    refine call_V rfl rfl ?_
    repeat' first | refine O_callP rfl rfl (viewL_pl (by (repeat' (first | exact Pl.int _ _ | exact Pl.bool _ | exact Pl.str _ | exact Pl.nilSl | exact pl_nil | refine pl_cons ?_ ?_ | refine Pl.tuple _ ?_ | refine Pl.agg _ ?_ | refine Pl.func _ _ ?_ | assumption | refine Pl.iptr _ _ ?_ | exact pll_nil | refine pll_cons ?_ ?_ | refine Pl.sl _ _ ?_)); first | done | fail)) h8 ?_ | refine O_append (p := .sl (byteCells [kb]) true) (src := byteCells (be 8 (ord64 n))) (by rw [← hkb]; rfl) rfl rfl (okEls_bytes _) (by decide) (by decide) (hf8 _) ?_ | refine O_step rfl ?_ | refine O_stepL rfl ?_ | refine V_O rfl ?_ | refine O_step rfl ?_ | refine O_nil' ?_ | refine V_cT rfl rfl ?_ | refine V_cF rfl rfl ?_ | refine V_cEq rfl rfl ?_ | refine V_cNe rfl rfl ?_ | refine V_cB rfl rfl (fun _ => ?_) (fun _ => ?_) | refine O_gT' rfl ?_ | refine O_gU' rfl ?_ | refine O_gF' rfl rfl ?_ | refine O_gEq rfl ?_ | refine O_gNe rfl ?_ | refine O_gS rfl (fun _ => ?_) (fun _ => ?_) | refine V_fin rfl rfl (Pl.view (by (repeat' (first | exact Pl.int _ _ | exact Pl.bool _ | exact Pl.str _ | exact Pl.nilSl | exact pl_nil | refine pl_cons ?_ ?_ | refine Pl.tuple _ ?_ | refine Pl.agg _ ?_ | refine Pl.func _ _ ?_ | assumption | refine Pl.iptr _ _ ?_ | exact pll_nil | refine pll_cons ?_ ?_ | refine Pl.sl _ _ ?_)); first | done | fail)) ?_ | refine V_finN rfl rfl (Pl.view (by (repeat' (first | exact Pl.int _ _ | exact Pl.bool _ | exact Pl.str _ | exact Pl.nilSl | exact pl_nil | refine pl_cons ?_ ?_ | refine Pl.tuple _ ?_ | refine Pl.agg _ ?_ | refine Pl.func _ _ ?_ | assumption | refine Pl.iptr _ _ ?_ | exact pll_nil | refine pll_cons ?_ ?_ | refine Pl.sl _ _ ?_)); first | done | fail)) ?_ | refine V_D rfl ?_ | refine D_step rfl ?_ | refine D_nil' ?_ | refine D_gT' rfl ?_ | refine D_gU' rfl ?_ | refine D_gF' rfl rfl ?_ | refine D_gS rfl (fun _ => ?_) (fun _ => ?_)
    exact V_fin (r := .sl (byteCells ([kb] ++ be 8 (ord64 n))) false) rfl rfl (view_osl0 (g := 0) (sz := 1) (lv := true) (es := byteCells ([kb] ++ be 8 (ord64 n))) rfl (.inl rfl) rfl (pl_bytes _)) rfl
  · have hfv : formV (.mk 3 n s l) = [kb] ++ [UInt8.ofNat (n % 256).toNat] := by simp only [formV, hkd]; simp
    rw [hfv]
    refine call_V rfl rfl ?_
    repeat' first | refine O_append (p := .sl (byteCells [kb]) true) (src := byteCells [UInt8.ofNat (n % 256).toNat]) (by rw [← hkb]; rfl) rfl (by rw [← wrap8 n]; rfl) (okEls_bytes _) (by decide) (by decide) (hf3 _) ?_ | refine O_step rfl ?_ | refine O_stepL rfl ?_ | refine V_O rfl ?_ | refine O_step rfl ?_ | refine O_nil' ?_ | refine V_cT rfl rfl ?_ | refine V_cF rfl rfl ?_ | refine V_cEq rfl rfl ?_ | refine V_cNe rfl rfl ?_ | refine V_cB rfl rfl (fun _ => ?_) (fun _ => ?_) | refine O_gT' rfl ?_ | refine O_gU' rfl ?_ | refine O_gF' rfl rfl ?_ | refine O_gEq rfl ?_ | refine O_gNe rfl ?_ | refine O_gS rfl (fun _ => ?_) (fun _ => ?_) | refine V_fin rfl rfl (Pl.view (by (repeat' (first | exact Pl.int _ _ | exact Pl.bool _ | exact Pl.str _ | exact Pl.nilSl | exact pl_nil | refine pl_cons ?_ ?_ | refine Pl.tuple _ ?_ | refine Pl.agg _ ?_ | refine Pl.func _ _ ?_ | assumption | refine Pl.iptr _ _ ?_ | exact pll_nil | refine pll_cons ?_ ?_ | refine Pl.sl _ _ ?_)); first | done | fail)) ?_ | refine V_finN rfl rfl (Pl.view (by (repeat' (first | exact Pl.int _ _ | exact Pl.bool _ | exact Pl.str _ | exact Pl.nilSl | exact pl_nil | refine pl_cons ?_ ?_ | refine Pl.tuple _ ?_ | refine Pl.agg _ ?_ | refine Pl.func _ _ ?_ | assumption | refine Pl.iptr _ _ ?_ | exact pll_nil | refine pll_cons ?_ ?_ | refine Pl.sl _ _ ?_)); first | done | fail)) ?_ | refine V_D rfl ?_ | refine D_step rfl ?_ | refine D_nil' ?_ | refine D_gT' rfl ?_ | refine D_gU' rfl ?_ | refine D_gF' rfl rfl ?_ | refine D_gS rfl (fun _ => ?_) (fun _ => ?_)
    exact V_fin (r := .sl (byteCells ([kb] ++ [UInt8.ofNat (n % 256).toNat])) false) rfl rfl (view_osl0 (g := 0) (sz := 1) (lv := true) (es := byteCells ([kb] ++ [UInt8.ofNat (n % 256).toNat])) rfl (.inl rfl) rfl (pl_bytes _)) rfl
  · have hfv : formV (.mk 6 n s l) = [kb] ++ be 8 (ord64 n) := by simp only [formV, hkd]; simp
    rw [hfv]
    refine call_V rfl rfl ?_
    repeat' first | refine O_callP rfl rfl (viewL_pl (by (repeat' (first | exact Pl.int _ _ | exact Pl.bool _ | exact Pl.str _ | exact Pl.nilSl | exact pl_nil | refine pl_cons ?_ ?_ | refine Pl.tuple _ ?_ | refine Pl.agg _ ?_ | refine Pl.func _ _ ?_ | assumption | refine Pl.iptr _ _ ?_ | exact pll_nil | refine pll_cons ?_ ?_ | refine Pl.sl _ _ ?_)); first | done | fail)) h8 ?_ | refine O_append (p := .sl (byteCells [kb]) true) (src := byteCells (be 8 (ord64 n))) (by rw [← hkb]; rfl) rfl rfl (okEls_bytes _) (by decide) (by decide) (hf8 _) ?_ | refine O_step rfl ?_ | refine O_stepL rfl ?_ | refine V_O rfl ?_ | refine O_step rfl ?_ | refine O_nil' ?_ | refine V_cT rfl rfl ?_ | refine V_cF rfl rfl ?_ | refine V_cEq rfl rfl ?_ | refine V_cNe rfl rfl ?_ | refine V_cB rfl rfl (fun _ => ?_) (fun _ => ?_) | refine O_gT' rfl ?_ | refine O_gU' rfl ?_ | refine O_gF' rfl rfl ?_ | refine O_gEq rfl ?_ | refine O_gNe rfl ?_ | refine O_gS rfl (fun _ => ?_) (fun _ => ?_) | refine V_fin rfl rfl (Pl.view (by (repeat' (first | exact Pl.int _ _ | exact Pl.bool _ | exact Pl.str _ | exact Pl.nilSl | exact pl_nil | refine pl_cons ?_ ?_ | refine Pl.tuple _ ?_ | refine Pl.agg _ ?_ | refine Pl.func _ _ ?_ | assumption | refine Pl.iptr _ _ ?_ | exact pll_nil | refine pll_cons ?_ ?_ | refine Pl.sl _ _ ?_)); first | done | fail)) ?_ | refine V_finN rfl rfl (Pl.view (by (repeat' (first | exact Pl.int _ _ | exact Pl.bool _ | exact Pl.str _ | exact Pl.nilSl | exact pl_nil | refine pl_cons ?_ ?_ | refine Pl.tuple _ ?_ | refine Pl.agg _ ?_ | refine Pl.func _ _ ?_ | assumption | refine Pl.iptr _ _ ?_ | exact pll_nil | refine pll_cons ?_ ?_ | refine Pl.sl _ _ ?_)); first | done | fail)) ?_ | refine V_D rfl ?_ | refine D_step rfl ?_ | refine D_nil' ?_ | refine D_gT' rfl ?_ | refine D_gU' rfl ?_ | refine D_gF' rfl rfl ?_ | refine D_gS rfl (fun _ => ?_) (fun _ => ?_)
    exact V_fin (r := .sl (byteCells ([kb] ++ be 8 (ord64 n))) false) rfl rfl (view_osl0 (g := 0) (sz := 1) (lv := true) (es := byteCells ([kb] ++ be 8 (ord64 n))) rfl (.inl rfl) rfl (pl_bytes _)) rfl
  · have hfv : formV (.mk 7 n s l) = [kb] ++ be 8 (ord64 n) := by simp only [formV, hkd]; simp
    rw [hfv]
    refine call_V rfl rfl ?_
    repeat' first | refine O_callP rfl rfl (viewL_pl (by (repeat' (first | exact Pl.int _ _ | exact Pl.bool _ | exact Pl.str _ | exact Pl.nilSl | exact pl_nil | refine pl_cons ?_ ?_ | refine Pl.tuple _ ?_ | refine Pl.agg _ ?_ | refine Pl.func _ _ ?_ | assumption | refine Pl.iptr _ _ ?_ | exact pll_nil | refine pll_cons ?_ ?_ | refine Pl.sl _ _ ?_)); first | done | fail)) h8 ?_ | refine O_append (p := .sl (byteCells [kb]) true) (src := byteCells (be 8 (ord64 n))) (by rw [← hkb]; rfl) rfl rfl (okEls_bytes _) (by decide) (by decide) (hf8 _) ?_ | refine O_step rfl ?_ | refine O_stepL rfl ?_ | refine V_O rfl ?_ | refine O_step rfl ?_ | refine O_nil' ?_ | refine V_cT rfl rfl ?_ | refine V_cF rfl rfl ?_ | refine V_cEq rfl rfl ?_ | refine V_cNe rfl rfl ?_ | refine V_cB rfl rfl (fun _ => ?_) (fun _ => ?_) | refine O_gT' rfl ?_ | refine O_gU' rfl ?_ | refine O_gF' rfl rfl ?_ | refine O_gEq rfl ?_ | refine O_gNe rfl ?_ | refine O_gS rfl (fun _ => ?_) (fun _ => ?_) | refine V_fin rfl rfl (Pl.view (by (repeat' (first | exact Pl.int _ _ | exact Pl.bool _ | exact Pl.str _ | exact Pl.nilSl | exact pl_nil | refine pl_cons ?_ ?_ | refine Pl.tuple _ ?_ | refine Pl.agg _ ?_ | refine Pl.func _ _ ?_ | assumption | refine Pl.iptr _ _ ?_ | exact pll_nil | refine pll_cons ?_ ?_ | refine Pl.sl _ _ ?_)); first | done | fail)) ?_ | refine V_finN rfl rfl (Pl.view (by (repeat' (first | exact Pl.int _ _ | exact Pl.bool _ | exact Pl.str _ | exact Pl.nilSl | exact pl_nil | refine pl_cons ?_ ?_ | refine Pl.tuple _ ?_ | refine Pl.agg _ ?_ | refine Pl.func _ _ ?_ | assumption | refine Pl.iptr _ _ ?_ | exact pll_nil | refine pll_cons ?_ ?_ | refine Pl.sl _ _ ?_)); first | done | fail)) ?_ | refine V_D rfl ?_ | refine D_step rfl ?_ | refine D_nil' ?_ | refine D_gT' rfl ?_ | refine D_gU' rfl ?_ | refine D_gF' rfl rfl ?_ | refine D_gS rfl (fun _ => ?_) (fun _ => ?_)
    exact V_fin (r := .sl (byteCells ([kb] ++ be 8 (ord64 n))) false) rfl rfl (view_osl0 (g := 0) (sz := 1) (lv := true) (es := byteCells ([kb] ++ be 8 (ord64 n))) rfl (.inl rfl) rfl (pl_bytes _)) rfl
  · have hfv : formV (.mk 2 n s l) = 2 :: esc s ++ [0, 1] := by simp only [formV]; rfl
    have hel := esc_le s
    have hloop := fun e st v hA hg0 htk h1 h3 h4 => form_loop 2 n s p (by omega) s [] e st v rfl hA hg0 htk h1 h3 h4
    rw [hfv]
    refine call_V rfl rfl ?_
    repeat' first | refine O_stepL rfl ?_ | refine V_O rfl ?_ | refine O_step rfl ?_ | refine O_nil' ?_ | refine V_cT rfl rfl ?_ | refine V_cF rfl rfl ?_ | refine V_cEq rfl rfl ?_ | refine V_cNe rfl rfl ?_ | refine V_cB rfl rfl (fun _ => ?_) (fun _ => ?_) | refine O_gT' rfl ?_ | refine O_gU' rfl ?_ | refine O_gF' rfl rfl ?_ | refine O_gEq rfl ?_ | refine O_gNe rfl ?_ | refine O_gS rfl (fun _ => ?_) (fun _ => ?_) | refine V_fin rfl rfl (Pl.view (by (repeat' (first | exact Pl.int _ _ | exact Pl.bool _ | exact Pl.str _ | exact Pl.nilSl | exact pl_nil | refine pl_cons ?_ ?_ | refine Pl.tuple _ ?_ | refine Pl.agg _ ?_ | refine Pl.func _ _ ?_ | assumption | refine Pl.iptr _ _ ?_ | exact pll_nil | refine pll_cons ?_ ?_ | refine Pl.sl _ _ ?_)); first | done | fail)) ?_ | refine V_finN rfl rfl (Pl.view (by (repeat' (first | exact Pl.int _ _ | exact Pl.bool _ | exact Pl.str _ | exact Pl.nilSl | exact pl_nil | refine pl_cons ?_ ?_ | refine Pl.tuple _ ?_ | refine Pl.agg _ ?_ | refine Pl.func _ _ ?_ | assumption | refine Pl.iptr _ _ ?_ | exact pll_nil | refine pll_cons ?_ ?_ | refine Pl.sl _ _ ?_)); first | done | fail)) ?_ | refine V_D rfl ?_ | refine D_step rfl ?_ | refine D_nil' ?_ | refine D_gT' rfl ?_ | refine D_gU' rfl ?_ | refine D_gF' rfl rfl ?_ | refine D_gS rfl (fun _ => ?_) (fun _ => ?_)
    refine V_cutA rfl (hloop _ _ (.osl 1 0 0 1 false) (.inr ⟨1, 0, rfl, rfl, Nat.le_of_ble_eq_true rfl⟩) rfl (by simp [tokOf]) rfl rfl rfl) ?_
    rintro x e' st' ⟨rfl, v', rfl, hA⟩
    obtain ⟨v3, st3, j1, j2, j3⟩ := hA.grow (bytes := 1) (src := byteCells [0, 1]) (by simp [byteCells]) (by simp only [byteCells_length, roomLen]; simp; omega)
    rw [← byteCells_append] at j2
    repeat' first | refine O_append (src := byteCells [0, 1]) rfl rfl rfl (okEls_bytes _) (by decide) (by decide) j1 ?_ | refine V_O rfl ?_ | refine O_step rfl ?_ | refine O_nil' ?_ | refine V_cT rfl rfl ?_ | refine V_cF rfl rfl ?_ | refine V_cEq rfl rfl ?_ | refine V_cNe rfl rfl ?_ | refine V_cB rfl rfl (fun _ => ?_) (fun _ => ?_) | refine O_gT' rfl ?_ | refine O_gU' rfl ?_ | refine O_gF' rfl rfl ?_ | refine O_gEq rfl ?_ | refine O_gNe rfl ?_ | refine O_gS rfl (fun _ => ?_) (fun _ => ?_) | refine V_fin rfl rfl (Pl.view (by (repeat' (first | exact Pl.int _ _ | exact Pl.bool _ | exact Pl.str _ | exact Pl.nilSl | exact pl_nil | refine pl_cons ?_ ?_ | refine Pl.tuple _ ?_ | refine Pl.agg _ ?_ | refine Pl.func _ _ ?_ | assumption | refine Pl.iptr _ _ ?_ | exact pll_nil | refine pll_cons ?_ ?_ | refine Pl.sl _ _ ?_)); first | done | fail)) ?_ | refine V_finN rfl rfl (Pl.view (by (repeat' (first | exact Pl.int _ _ | exact Pl.bool _ | exact Pl.str _ | exact Pl.nilSl | exact pl_nil | refine pl_cons ?_ ?_ | refine Pl.tuple _ ?_ | refine Pl.agg _ ?_ | refine Pl.func _ _ ?_ | assumption | refine Pl.iptr _ _ ?_ | exact pll_nil | refine pll_cons ?_ ?_ | refine Pl.sl _ _ ?_)); first | done | fail)) ?_ | refine V_D rfl ?_ | refine D_step rfl ?_ | refine D_nil' ?_ | refine D_gT' rfl ?_ | refine D_gU' rfl ?_ | refine D_gF' rfl rfl ?_ | refine D_gS rfl (fun _ => ?_) (fun _ => ?_)
    exact V_fin rfl rfl (acc_fin j2 (by simp)) rfl
end Go.Proofs.YtfdebgebnkbagaaDoor


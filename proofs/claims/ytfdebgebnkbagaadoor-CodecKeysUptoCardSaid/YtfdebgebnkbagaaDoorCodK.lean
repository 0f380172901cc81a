/- rambleref03.takeStr. -/
import Derived.Test.YtfdebgebnkbagaaDoorCodJ
set_option linter.unusedVariables false
set_option linter.unusedSimpArgs false
namespace Go.Proofs.YtfdebgebnkbagaaDoor
open Go Go.AM Go.RowKit

theorem strR_ne {b : UInt8} (hb : b ≠ 0) (r acc : List UInt8) (n : Nat) : strR (b :: r) acc n = strR r (acc ++ [b]) (n + 1) := by
  cases r with
  | nil => simp [strR]
  | cons c r => simp only [strR]; rw [if_neg hb]
theorem strR_app : ∀ (x y acc : List UInt8) (n : Nat), x.count 0 = 0 → strR (x ++ y) acc n = strR y (acc ++ x) (n + x.length)
  | [], y, acc, n, _ => by simp
  | b :: x, y, acc, n, h => by
    rw [List.count_cons] at h
    have hb : b ≠ 0 := by rintro rfl; simp at h
    rw [List.cons_append, strR_ne hb, strR_app x y _ _ (by omega)]
    simp only [List.append_assoc, List.cons_append, List.nil_append, List.length_cons]
    congr 1
    omega
theorem RB.elems {st : St} {v : PV} {s : List UInt8} (h : RB st v s) : elemsOf st.get v = some (byteCells s) := by
  have := h.src
  rcases h with ⟨rfl, _⟩ | ⟨f, rfl⟩ | ⟨t, g, lv, rfl, _⟩ <;> exact this
theorem O_toStrA {T : Tb} {Q : Post} {k : List Fr} {ρ : EC} {st : St} {l : List POp} {kill : List Nat} {d : Option Nat} {x : Opd} {v : PV} {s : List UInt8} (hx : x.get ρ = some v) (hv : elemsOf st.get v = some (byteCells s)) (h : VO T Q l kill k (ρ.sets d (.str s)) st) : VO T Q (⟨d, none, .toStr x⟩ :: l) kill k ρ st :=
  O_step (by simp only [stepQ, get1, hx, hv, Option.bind_some, bytesOf_cells, Option.map_some]) h
/-- A row of one's own, beside a result that stands at 0. -/
def AccR (st : St) (v : PV) (b : List UInt8) : Prop := AccT 1 st v (byteCells b) ∧ 0 < st.next ∧ tokOf v ≠ some 0 ∧ ∃ c0 c1 c2 c3, st.get 0 = some (.var [c0, c1, c2, c3])
theorem AccR.grow {st : St} {v : PV} {b : List UInt8} (h : AccR st v b) (c : List UInt8) (hne : c ≠ []) (hr : b.length + c.length ≤ 140737488355328) : ∃ v' st', appendTo st 1 1 v (byteCells c) = some (v', st') ∧ AccR st' v' (b ++ c) := by
  obtain ⟨hA, hn, ht, c0, c1, c2, c3, hg⟩ := h
  obtain ⟨v', st', k1, k2, k3⟩ := hA.grow (bytes := 1) (src := byteCells c) (by simpa [byteCells] using hne) (by simp only [byteCells_length, roomLen]; omega)
  rw [← byteCells_append] at k2
  refine ⟨v', st', k1, k2, by have := k3.2.1; omega, ?_, c0, c1, c2, c3, by rw [k3.2.2.2 0 hn ht]; exact hg⟩
  rcases k3.2.2.1 with h | ⟨m, h, hm⟩
  · rw [h]; exact ht
  · rw [h]; intro e; injection e; omega
def strP (t : TR) : EX → EC → St → Prop := fun x e' st' => (x = .exit 0 ∧ t = .err 11 ∧ e' = .put 2 (.ptr 0 0) .nil ∧ ∃ c0 c1 c2 c3, st'.get 0 = some (.var [c0, c1, c2, c3])) ∨ (x = .ret ∧ ∃ (a b : Int) (s : List UInt8) (c d : Int), trPV t = .tuple [.agg [.int .i64 a, .int .i64 b, .str s, .nilSl], .int .i64 c, .int .i64 d] ∧ e' = .put 2 (.ptr 0 0) (.put 3 (.int .i64 c) (.put 4 (.int .i64 d) .nil)) ∧ st'.get 0 = some (.var [.int .i64 a, .int .i64 b, .str s, .nilSl]))
theorem str3_loop (p : PV) (b0 : List UInt8) (hp : BV p b0) (hb0 : b0.length ≤ 1048576) : ∀ (m : Nat) (rest pre acc : List UInt8) (e : EC) (st : St) (v : PV), rest.length ≤ m → b0 = pre ++ rest → acc.length ≤ pre.length → AccR st v acc → e.get 0 = some p → e.get 2 = some (.ptr 0 0) → e.get 5 = some v → e.get 6 = some (.int .i64 pre.length) →
    V T (PE (strP (strR rest acc pre.length))) [.code (.loop lp_rambleref03_takeStr_0)] .normal e st := by
  intro m
  have out : ∀ (t : TR) (fr : List Fr) (x : EX) (e' : EC) (st : St), t = .err 11 → adv 200 fr x = ([], .exit 0) → e'.get 2 = some (.ptr 0 0) → (∃ c0 c1 c2 c3, st.get 0 = some (.var [c0, c1, c2, c3])) → V T (PE (strP t)) fr x e' st := fun t fr x e' st ht hadv g2 hg =>
    V_less (.put 2 (.ptr 0 0) .nil) (less_put g2 less_nil) (V_endP hadv (.inl ⟨rfl, ht, rfl, hg⟩))
  have ret : ∀ (t : TR) (fr : List Fr) (x : EX) (e' : EC) (st : St) (a b : Int) (s : List UInt8) (c d : Int), trPV t = .tuple [.agg [.int .i64 a, .int .i64 b, .str s, .nilSl], .int .i64 c, .int .i64 d] → adv 200 fr x = ([], .ret) → e'.get 2 = some (.ptr 0 0) → e'.get 3 = some (.int .i64 c) → e'.get 4 = some (.int .i64 d) → st.get 0 = some (.var [.int .i64 a, .int .i64 b, .str s, .nilSl]) → V T (PE (strP t)) fr x e' st := fun t fr x e' st a b s c d ht hadv g2 g3 g4 hg =>
    V_less (.put 2 (.ptr 0 0) (.put 3 _ (.put 4 _ .nil))) (less_put g2 (less_put g3 (less_put g4 less_nil))) (V_endP hadv (.inr ⟨rfl, a, b, s, c, d, ht, rfl, hg⟩))
  induction m with
  | zero =>
    intro rest pre acc e st v hm hb ha hA h0 h2 h5 h6
    have hr : rest = [] := List.length_eq_zero_iff.1 (by omega)
    subst hr
    have hlt : decide ((pre.length : Int) < b0.length) = false := decide_eq_false (by subst hb; simp)
    refine V_less (.put 0 p (.put 2 _ (.put 5 _ (.put 6 _ .nil)))) (less_put h0 (less_put h2 (less_put h5 (less_put h6 less_nil)))) (V_unroll ?_)
    repeat' first | refine O_lenB rfl hp ?_ | refine V_cH hlt rfl rfl ?_ | refine out _ _ _ _ _ rfl rfl rfl hA.2.2.2 | refine V_O rfl ?_ | refine O_step rfl ?_ | refine O_nil' ?_ | refine V_cT rfl rfl ?_ | refine V_cF rfl rfl ?_ | refine V_cEq rfl rfl ?_ | refine V_cNe rfl rfl ?_ | refine V_cB rfl rfl (fun _ => ?_) (fun _ => ?_) | refine O_gT' rfl ?_ | refine O_gU' rfl ?_ | refine O_gF' rfl rfl ?_ | refine O_gEq rfl ?_ | refine O_gNe rfl ?_ | refine O_gS rfl (fun _ => ?_) (fun _ => ?_) | refine V_fin rfl rfl (Pl.view (by (repeat' (first | exact Pl.int _ _ | exact Pl.bool _ | exact Pl.str _ | exact Pl.nilSl | exact pl_nil | refine pl_cons ?_ ?_ | refine Pl.tuple _ ?_ | refine Pl.agg _ ?_ | refine Pl.func _ _ ?_ | assumption | refine Pl.iptr _ _ ?_ | exact pll_nil | refine pll_cons ?_ ?_ | refine Pl.sl _ _ ?_)); first | done | fail)) ?_ | refine V_finN rfl rfl (Pl.view (by (repeat' (first | exact Pl.int _ _ | exact Pl.bool _ | exact Pl.str _ | exact Pl.nilSl | exact pl_nil | refine pl_cons ?_ ?_ | refine Pl.tuple _ ?_ | refine Pl.agg _ ?_ | refine Pl.func _ _ ?_ | assumption | refine Pl.iptr _ _ ?_ | exact pll_nil | refine pll_cons ?_ ?_ | refine Pl.sl _ _ ?_)); first | done | fail)) ?_ | refine V_D rfl ?_ | refine D_step rfl ?_ | refine D_nil' ?_ | refine D_gT' rfl ?_ | refine D_gU' rfl ?_ | refine D_gF' rfl rfl ?_ | refine D_gS rfl (fun _ => ?_) (fun _ => ?_)
  | succ m ih =>
    intro rest pre acc e st v hm hb ha hA h0 h2 h5 h6
    cases rest with
    | nil => exact ih [] pre acc e st v (by simp) hb ha hA h0 h2 h5 h6
    | cons c rest =>
      have hlen : pre.length + 1 + rest.length = b0.length := by subst hb; simp; omega
      have hlt : decide ((pre.length : Int) < b0.length) = true := decide_eq_true (by omega)
      have hat := hp.at (n := (pre.length : Int)) (b := c) (by omega) (by subst hb; simp)
      have hw : IntKind.i64.wrap ((pre.length : Int) + 1) = ((pre ++ [c]).length : Int) := by rw [wrap_i64]; simp; omega
      by_cases hc : c = 0
      · subst hc
        have hne0 : (!decide (((0 : UInt8).toNat : Int) = 0)) = false := rfl
        cases rest with
        | nil =>
          have heq : decide (IntKind.i64.wrap ((pre.length : Int) + 1) = (b0.length : Int)) = true := decide_eq_true (by rw [hw]; simp at hlen ⊢; omega)
          refine V_less (.put 0 p (.put 2 _ (.put 5 _ (.put 6 _ .nil)))) (less_put h0 (less_put h2 (less_put h5 (less_put h6 less_nil)))) (V_unroll ?_)
          clear ih
          repeat' first | refine O_lenB rfl hp ?_ | refine V_cHT hlt rfl rfl ?_ | refine O_at rfl rfl hat ?_ | refine V_cHT heq rfl rfl ?_ | refine out _ _ _ _ _ (by simp [strR]) rfl rfl hA.2.2.2 | refine V_O rfl ?_ | refine O_step rfl ?_ | refine O_nil' ?_ | refine V_cT rfl rfl ?_ | refine V_cF rfl rfl ?_ | refine V_cEq rfl rfl ?_ | refine V_cNe rfl rfl ?_ | refine V_cB rfl rfl (fun _ => ?_) (fun _ => ?_) | refine O_gT' rfl ?_ | refine O_gU' rfl ?_ | refine O_gF' rfl rfl ?_ | refine O_gEq rfl ?_ | refine O_gNe rfl ?_ | refine O_gS rfl (fun _ => ?_) (fun _ => ?_) | refine V_fin rfl rfl (Pl.view (by (repeat' (first | exact Pl.int _ _ | exact Pl.bool _ | exact Pl.str _ | exact Pl.nilSl | exact pl_nil | refine pl_cons ?_ ?_ | refine Pl.tuple _ ?_ | refine Pl.agg _ ?_ | refine Pl.func _ _ ?_ | assumption | refine Pl.iptr _ _ ?_ | exact pll_nil | refine pll_cons ?_ ?_ | refine Pl.sl _ _ ?_)); first | done | fail)) ?_ | refine V_finN rfl rfl (Pl.view (by (repeat' (first | exact Pl.int _ _ | exact Pl.bool _ | exact Pl.str _ | exact Pl.nilSl | exact pl_nil | refine pl_cons ?_ ?_ | refine Pl.tuple _ ?_ | refine Pl.agg _ ?_ | refine Pl.func _ _ ?_ | assumption | refine Pl.iptr _ _ ?_ | exact pll_nil | refine pll_cons ?_ ?_ | refine Pl.sl _ _ ?_)); first | done | fail)) ?_ | refine V_D rfl ?_ | refine D_step rfl ?_ | refine D_nil' ?_ | refine D_gT' rfl ?_ | refine D_gU' rfl ?_ | refine D_gF' rfl rfl ?_ | refine D_gS rfl (fun _ => ?_) (fun _ => ?_)
        | cons d rest =>
          have heq : decide (IntKind.i64.wrap ((pre.length : Int) + 1) = (b0.length : Int)) = false := decide_eq_false (by rw [hw]; simp at hlen ⊢; omega)
          have hat2 : At 1 p (IntKind.i64.wrap ((pre.length : Int) + 1)) [.int .u8 d.toNat] := by
            rw [hw]
            exact hp.at (by omega) (by subst hb; simp)
          obtain ⟨hAT, hn, ht, c0, c1, c2, c3, hg0⟩ := id hA
          have hel := RB.elems (AccT.rb (st := st) hAT)
          have hw2 : IntKind.i64.wrap (IntKind.i64.wrap ((pre.length : Int) + 1) + 1) = ((pre ++ [0, d]).length : Int) := by rw [hw, wrap_i64]; simp; omega
          have hw3 : IntKind.i64.wrap (IntKind.i64.wrap ((pre.length : Int) + 1) + 1) = ((pre.length + 2 : Nat) : Int) := by rw [hw2]; simp
          by_cases hd1 : d = 1
          · subst hd1
            have hs1 : strR (0 :: 1 :: rest) acc pre.length = made (.mk 2 0 acc []) (pre.length + 2) := by simp [strR]
            have hmade := run_checked 2 0 acc (pre.length + 2) (by simp [I64]) (by simp [I64]) (by omega)
            rw [← hw3] at hmade
            obtain ⟨a, b, s, c', d', hf⟩ := trPV_form (made (.mk 2 0 acc []) (pre.length + 2))
            rw [hf] at hmade
            rw [hs1]
            refine V_less (.put 0 p (.put 2 _ (.put 5 _ (.put 6 _ .nil)))) (less_put h0 (less_put h2 (less_put h5 (less_put h6 less_nil)))) (V_unroll ?_)
            clear ih
            repeat' first | refine O_lenB rfl hp ?_ | refine V_cHT hlt rfl rfl ?_ | refine O_at rfl rfl hat ?_ | refine O_at rfl rfl hat2 ?_ | refine V_cH heq rfl rfl ?_ | refine O_toStrA rfl hel ?_ | refine O_callP rfl rfl (viewL_pl (by (repeat' (first | exact Pl.int _ _ | exact Pl.bool _ | exact Pl.str _ | exact Pl.nilSl | exact pl_nil | refine pl_cons ?_ ?_ | refine Pl.tuple _ ?_ | refine Pl.agg _ ?_ | refine Pl.func _ _ ?_ | assumption | refine Pl.iptr _ _ ?_ | exact pll_nil | refine pll_cons ?_ ?_ | refine Pl.sl _ _ ?_)); first | done | fail)) hmade ?_ | refine O_storeV rfl rfl rfl rfl rfl (storeAt_whole hg0 rfl) ?_ | refine ret _ _ _ _ _ _ _ _ _ _ hf rfl rfl rfl rfl St.get_put | refine V_O rfl ?_ | refine O_step rfl ?_ | refine O_nil' ?_ | refine V_cT rfl rfl ?_ | refine V_cF rfl rfl ?_ | refine V_cEq rfl rfl ?_ | refine V_cNe rfl rfl ?_ | refine V_cB rfl rfl (fun _ => ?_) (fun _ => ?_) | refine O_gT' rfl ?_ | refine O_gU' rfl ?_ | refine O_gF' rfl rfl ?_ | refine O_gEq rfl ?_ | refine O_gNe rfl ?_ | refine O_gS rfl (fun _ => ?_) (fun _ => ?_) | refine V_fin rfl rfl (Pl.view (by (repeat' (first | exact Pl.int _ _ | exact Pl.bool _ | exact Pl.str _ | exact Pl.nilSl | exact pl_nil | refine pl_cons ?_ ?_ | refine Pl.tuple _ ?_ | refine Pl.agg _ ?_ | refine Pl.func _ _ ?_ | assumption | refine Pl.iptr _ _ ?_ | exact pll_nil | refine pll_cons ?_ ?_ | refine Pl.sl _ _ ?_)); first | done | fail)) ?_ | refine V_finN rfl rfl (Pl.view (by (repeat' (first | exact Pl.int _ _ | exact Pl.bool _ | exact Pl.str _ | exact Pl.nilSl | exact pl_nil | refine pl_cons ?_ ?_ | refine Pl.tuple _ ?_ | refine Pl.agg _ ?_ | refine Pl.func _ _ ?_ | assumption | refine Pl.iptr _ _ ?_ | exact pll_nil | refine pll_cons ?_ ?_ | refine Pl.sl _ _ ?_)); first | done | fail)) ?_ | refine V_D rfl ?_ | refine D_step rfl ?_ | refine D_nil' ?_ | refine D_gT' rfl ?_ | refine D_gU' rfl ?_ | refine D_gF' rfl rfl ?_ | refine D_gS rfl (fun _ => ?_) (fun _ => ?_)
          · by_cases hd2 : d = 255
            · subst hd2
              obtain ⟨v2, st2, k1, k2⟩ := hA.grow [0] (by simp) (by simp; omega)
              have hs1 : strR (0 :: 255 :: rest) acc pre.length = strR rest (acc ++ [0]) ((pre ++ [0, 255]).length) := by simp [strR]
              have fin : ∀ (fr : List Fr) (x : EX) (e' : EC), adv 200 fr x = ([.code (.loop lp_rambleref03_takeStr_0)], .normal) → e'.get 0 = some p → e'.get 2 = some (.ptr 0 0) → e'.get 5 = some v2 → e'.get 6 = some (.int .i64 (IntKind.i64.wrap (IntKind.i64.wrap ((pre.length : Int) + 1) + 1))) → V T (PE (strP (strR (0 :: 255 :: rest) acc pre.length))) fr x e' st2 := fun fr x e' hadv g0 g2 g5 g6 => V_adv hadv (by
                rw [hw2] at g6
                rw [hs1]
                exact ih rest (pre ++ [0, 255]) (acc ++ [0]) e' st2 v2 (by simp at hm; omega) (by rw [hb]; simp) (by simp; omega) k2 g0 g2 g5 g6)
              refine V_less (.put 0 p (.put 2 _ (.put 5 _ (.put 6 _ .nil)))) (less_put h0 (less_put h2 (less_put h5 (less_put h6 less_nil)))) (V_unroll ?_)
              clear ih
              repeat' first | refine O_lenB rfl hp ?_ | refine V_cHT hlt rfl rfl ?_ | refine O_at rfl rfl hat ?_ | refine O_at rfl rfl hat2 ?_ | refine V_cH heq rfl rfl ?_ | refine O_append (src := byteCells [0]) rfl rfl rfl (okEls_bytes _) (by decide) (by decide) k1 ?_ | refine fin _ _ _ rfl rfl rfl rfl rfl | refine V_O rfl ?_ | refine O_step rfl ?_ | refine O_nil' ?_ | refine V_cT rfl rfl ?_ | refine V_cF rfl rfl ?_ | refine V_cEq rfl rfl ?_ | refine V_cNe rfl rfl ?_ | refine V_cB rfl rfl (fun _ => ?_) (fun _ => ?_) | refine O_gT' rfl ?_ | refine O_gU' rfl ?_ | refine O_gF' rfl rfl ?_ | refine O_gEq rfl ?_ | refine O_gNe rfl ?_ | refine O_gS rfl (fun _ => ?_) (fun _ => ?_) | refine V_fin rfl rfl (Pl.view (by (repeat' (first | exact Pl.int _ _ | exact Pl.bool _ | exact Pl.str _ | exact Pl.nilSl | exact pl_nil | refine pl_cons ?_ ?_ | refine Pl.tuple _ ?_ | refine Pl.agg _ ?_ | refine Pl.func _ _ ?_ | assumption | refine Pl.iptr _ _ ?_ | exact pll_nil | refine pll_cons ?_ ?_ | refine Pl.sl _ _ ?_)); first | done | fail)) ?_ | refine V_finN rfl rfl (Pl.view (by (repeat' (first | exact Pl.int _ _ | exact Pl.bool _ | exact Pl.str _ | exact Pl.nilSl | exact pl_nil | refine pl_cons ?_ ?_ | refine Pl.tuple _ ?_ | refine Pl.agg _ ?_ | refine Pl.func _ _ ?_ | assumption | refine Pl.iptr _ _ ?_ | exact pll_nil | refine pll_cons ?_ ?_ | refine Pl.sl _ _ ?_)); first | done | fail)) ?_ | refine V_D rfl ?_ | refine D_step rfl ?_ | refine D_nil' ?_ | refine D_gT' rfl ?_ | refine D_gU' rfl ?_ | refine D_gF' rfl rfl ?_ | refine D_gS rfl (fun _ => ?_) (fun _ => ?_)
            · have hs1 : strR (0 :: d :: rest) acc pre.length = .err 30 := by simp [strR, hd1, hd2]
              have e1 : decide ((d.toNat : Int) = 1) = false := decide_eq_false (fun h => hd1 (UInt8.toNat_inj.1 (by have : (1 : UInt8).toNat = 1 := rfl; omega)))
              have e2 : (!decide ((d.toNat : Int) = 255)) = true := by
                have : decide ((d.toNat : Int) = 255) = false := decide_eq_false (fun h => hd2 (UInt8.toNat_inj.1 (by have : (255 : UInt8).toNat = 255 := rfl; omega)))
                rw [this]; rfl
              rw [hs1]
              refine V_less (.put 0 p (.put 2 _ (.put 5 _ (.put 6 _ .nil)))) (less_put h0 (less_put h2 (less_put h5 (less_put h6 less_nil)))) (V_unroll ?_)
              clear ih
              repeat' first | refine O_lenB rfl hp ?_ | refine V_cHT hlt rfl rfl ?_ | refine O_at rfl rfl hat ?_ | refine O_at rfl rfl hat2 ?_ | refine V_cH heq rfl rfl ?_ | refine V_cH e1 rfl rfl ?_ | refine V_cHT e2 rfl rfl ?_ | refine O_storeV rfl rfl rfl rfl rfl (storeAt_whole hg0 rfl) ?_ | refine ret (.err 30) _ _ _ _ _ _ _ _ _ rfl rfl rfl rfl rfl St.get_put | refine V_O rfl ?_ | refine O_step rfl ?_ | refine O_nil' ?_ | refine V_cT rfl rfl ?_ | refine V_cF rfl rfl ?_ | refine V_cEq rfl rfl ?_ | refine V_cNe rfl rfl ?_ | refine V_cB rfl rfl (fun _ => ?_) (fun _ => ?_) | refine O_gT' rfl ?_ | refine O_gU' rfl ?_ | refine O_gF' rfl rfl ?_ | refine O_gEq rfl ?_ | refine O_gNe rfl ?_ | refine O_gS rfl (fun _ => ?_) (fun _ => ?_) | refine V_fin rfl rfl (Pl.view (by (repeat' (first | exact Pl.int _ _ | exact Pl.bool _ | exact Pl.str _ | exact Pl.nilSl | exact pl_nil | refine pl_cons ?_ ?_ | refine Pl.tuple _ ?_ | refine Pl.agg _ ?_ | refine Pl.func _ _ ?_ | assumption | refine Pl.iptr _ _ ?_ | exact pll_nil | refine pll_cons ?_ ?_ | refine Pl.sl _ _ ?_)); first | done | fail)) ?_ | refine V_finN rfl rfl (Pl.view (by (repeat' (first | exact Pl.int _ _ | exact Pl.bool _ | exact Pl.str _ | exact Pl.nilSl | exact pl_nil | refine pl_cons ?_ ?_ | refine Pl.tuple _ ?_ | refine Pl.agg _ ?_ | refine Pl.func _ _ ?_ | assumption | refine Pl.iptr _ _ ?_ | exact pll_nil | refine pll_cons ?_ ?_ | refine Pl.sl _ _ ?_)); first | done | fail)) ?_ | refine V_D rfl ?_ | refine D_step rfl ?_ | refine D_nil' ?_ | refine D_gT' rfl ?_ | refine D_gU' rfl ?_ | refine D_gF' rfl rfl ?_ | refine D_gS rfl (fun _ => ?_) (fun _ => ?_)
      · have hne0 : (!decide ((c.toNat : Int) = 0)) = true := by
          have := u8_pos' hc
          have h : decide ((c.toNat : Int) = 0) = false := decide_eq_false (by omega)
          rw [h]; rfl
        obtain ⟨v2, st2, k1, k2⟩ := hA.grow [c] (by simp) (by simp; omega)
        have fin : ∀ (fr : List Fr) (x : EX) (e' : EC), adv 200 fr x = ([.code (.loop lp_rambleref03_takeStr_0)], .normal) → e'.get 0 = some p → e'.get 2 = some (.ptr 0 0) → e'.get 5 = some v2 → e'.get 6 = some (.int .i64 (IntKind.i64.wrap ((pre.length : Int) + 1))) → V T (PE (strP (strR (c :: rest) acc pre.length))) fr x e' st2 := fun fr x e' hadv g0 g2 g5 g6 => V_adv hadv (by
          rw [hw] at g6
          rw [strR_ne hc, show pre.length + 1 = (pre ++ [c]).length by simp]
          exact ih rest (pre ++ [c]) (acc ++ [c]) e' st2 v2 (by simp at hm; omega) (by rw [hb]; simp) (by simp; omega) k2 g0 g2 g5 g6)
        refine V_less (.put 0 p (.put 2 _ (.put 5 _ (.put 6 _ .nil)))) (less_put h0 (less_put h2 (less_put h5 (less_put h6 less_nil)))) (V_unroll ?_)
        clear ih
        repeat' first | refine O_lenB rfl hp ?_ | refine V_cHT hlt rfl rfl ?_ | refine O_at rfl rfl hat ?_ | refine V_cHT hne0 rfl rfl ?_ | refine O_append (src := byteCells [c]) rfl rfl rfl (okEls_bytes _) (by decide) (by decide) k1 ?_ | refine fin _ _ _ rfl rfl rfl rfl rfl | refine V_O rfl ?_ | refine O_step rfl ?_ | refine O_nil' ?_ | refine V_cT rfl rfl ?_ | refine V_cF rfl rfl ?_ | refine V_cEq rfl rfl ?_ | refine V_cNe rfl rfl ?_ | refine V_cB rfl rfl (fun _ => ?_) (fun _ => ?_) | refine O_gT' rfl ?_ | refine O_gU' rfl ?_ | refine O_gF' rfl rfl ?_ | refine O_gEq rfl ?_ | refine O_gNe rfl ?_ | refine O_gS rfl (fun _ => ?_) (fun _ => ?_) | refine V_fin rfl rfl (Pl.view (by (repeat' (first | exact Pl.int _ _ | exact Pl.bool _ | exact Pl.str _ | exact Pl.nilSl | exact pl_nil | refine pl_cons ?_ ?_ | refine Pl.tuple _ ?_ | refine Pl.agg _ ?_ | refine Pl.func _ _ ?_ | assumption | refine Pl.iptr _ _ ?_ | exact pll_nil | refine pll_cons ?_ ?_ | refine Pl.sl _ _ ?_)); first | done | fail)) ?_ | refine V_finN rfl rfl (Pl.view (by (repeat' (first | exact Pl.int _ _ | exact Pl.bool _ | exact Pl.str _ | exact Pl.nilSl | exact pl_nil | refine pl_cons ?_ ?_ | refine Pl.tuple _ ?_ | refine Pl.agg _ ?_ | refine Pl.func _ _ ?_ | assumption | refine Pl.iptr _ _ ?_ | exact pll_nil | refine pll_cons ?_ ?_ | refine Pl.sl _ _ ?_)); first | done | fail)) ?_ | refine V_D rfl ?_ | refine D_step rfl ?_ | refine D_nil' ?_ | refine D_gT' rfl ?_ | refine D_gU' rfl ?_ | refine D_gF' rfl rfl ?_ | refine D_gS rfl (fun _ => ?_) (fun _ => ?_)
where
  u8_pos' {a : UInt8} (h : a ≠ 0) : (0 : Int) < a.toNat := by
    have : a.toNat ≠ 0 := fun e => h (UInt8.toNat_inj.1 e)
    omega
end Go.Proofs.YtfdebgebnkbagaaDoor


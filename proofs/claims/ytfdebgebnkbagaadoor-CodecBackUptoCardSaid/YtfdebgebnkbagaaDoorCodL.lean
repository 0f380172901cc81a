/- rambleref03.takeStr, codec.str. -/
import Derived.Test.YtfdebgebnkbagaaDoorCodK
set_option linter.unusedVariables false
set_option linter.unusedSimpArgs false
namespace Go.Proofs.YtfdebgebnkbagaaDoor
open Go Go.AM Go.RowKit
theorem resG_c3 {e : EC} {look : Nat → Option Tok} {t : Nat} {cs : List PV} {x y : PV} (h2 : e.get 2 = some (.ptr t 0)) (hg : look t = some (.var cs)) (hl : cs.length = 4) (h3 : e.get 3 = some x) (h4 : e.get 4 = some y) : resG e look [.cell 2 4 true, .tmp 3, .tmp 4] = some (.tuple [.agg cs, x, y]) := by
  have hld : loadAt look 4 true (.ptr t 0) = some (.agg cs) := by
    simp only [loadAt, behind, hg, Option.bind_some]
    rw [← hl]
    simp [slice?]
  simp [resG, resGs, resG1, h2, h3, h4, hld]
theorem strR_none : ∀ (x acc : List UInt8) (n : Nat), x.count 0 = 0 → strR x acc n = .err 11
  | [], acc, n, _ => rfl
  | b :: x, acc, n, h => by
    rw [List.count_cons] at h
    have hb : b ≠ 0 := by rintro rfl; simp at h
    rw [strR_ne hb]
    exact strR_none x _ _ (by omega)
theorem AccR.append {st : St} {v : PV} {b : List UInt8} (h : AccR st v b) (c : List UInt8) (hr : b.length + c.length ≤ 140737488355328) : ∃ v' st', appendTo st 1 1 v (byteCells c) = some (v', st') ∧ AccR st' v' (b ++ c) := by
  by_cases hc : c = []
  · subst hc
    refine ⟨v, st, appendTo_none ?_, by rw [List.append_nil]; exact h⟩
    rcases h.1 with ⟨rfl, _⟩ | ⟨t, g, rfl, _, _⟩
    · exact .inl rfl
    · exact .inr (.inr ⟨_, _, _, _, _, rfl⟩)
  · exact h.grow c hc hr
def strQ (t : TR) : EX → EC → St → Prop := fun x e' st' => x = .ret ∧ ∃ (a b : Int) (s : List UInt8) (c d : Int), trPV t = .tuple [.agg [.int .i64 a, .int .i64 b, .str s, .nilSl], .int .i64 c, .int .i64 d] ∧ e' = .put 2 (.ptr 0 0) (.put 3 (.int .i64 c) (.put 4 (.int .i64 d) .nil)) ∧ st'.get 0 = some (.var [.int .i64 a, .int .i64 b, .str s, .nilSl])
theorem wrap_id {n : Int} (h0 : 0 ≤ n) (h1 : n ≤ 4611686018427387904) : IntKind.i64.wrap n = n := by rw [wrap_i64]; omega
set_option maxHeartbeats 4000000 in
theorem str_loop (p : PV) (b0 : List UInt8) (hp : BV p b0) (hb0 : b0.length ≤ 1073741824) : ∀ (m : Nat) (rest pre acc : List UInt8) (e : EC) (st : St) (v : PV), rest.length < m → b0 = pre ++ rest → acc.length ≤ pre.length → AccR st v acc → e.get 0 = some p → e.get 2 = some (.ptr 0 0) → e.get 5 = some v → e.get 6 = some (.int .i64 pre.length) →
    V T (PE (strQ (strR rest acc pre.length))) [.code (.loop lp_codec_str_0)] .normal e st := by
  intro m
  have ret : ∀ (t : TR) (fr : List Fr) (x : EX) (e' : EC) (st : St) (a b : Int) (s : List UInt8) (c d : Int), trPV t = .tuple [.agg [.int .i64 a, .int .i64 b, .str s, .nilSl], .int .i64 c, .int .i64 d] → adv 200 fr x = ([], .ret) → e'.get 2 = some (.ptr 0 0) → e'.get 3 = some (.int .i64 c) → e'.get 4 = some (.int .i64 d) → st.get 0 = some (.var [.int .i64 a, .int .i64 b, .str s, .nilSl]) → V T (PE (strQ t)) fr x e' st := fun t fr x e' st a b s c d ht hadv g2 g3 g4 hg =>
    V_less (.put 2 (.ptr 0 0) (.put 3 _ (.put 4 _ .nil))) (less_put g2 (less_put g3 (less_put g4 less_nil))) (V_endP hadv ⟨rfl, a, b, s, c, d, ht, rfl, hg⟩)
  induction m with
  | zero => intro rest pre acc e st v hm; omega
  | succ m ih =>
    intro rest pre acc e st v hm hb ha hA h0 h2 h5 h6
    have hlen : pre.length + rest.length = b0.length := by subst hb; simp
    obtain ⟨hAT, hn, ht, c0, c1, c2, c3, hg0⟩ := id hA
    obtain ⟨v1, hv1, hb1⟩ := hp.lo st.get (k := .i64) (m := (pre.length : Int)) (by omega) (by omega)
    rw [Int.toNat_natCast, hb, List.drop_left] at hb1
    have pl1 := hb1.pl
    have hcall := run_IndexByte hb1 0
    rw [show (0 : Int).toNat.toUInt8 = 0 from rfl] at hcall
    rcases idx_spec rest with ⟨hi, hcn⟩ | ⟨x, y, hxy, hx0, hi⟩
    · rw [hi] at hcall
      have hs := strR_none rest acc pre.length hcn
      rw [hs]
      refine V_less (.put 0 p (.put 2 _ (.put 5 _ (.put 6 _ .nil)))) (less_put h0 (less_put h2 (less_put h5 (less_put h6 less_nil)))) (V_unroll ?_)
      clear ih
      repeat' first | refine O_slice v1 rfl rfl rfl rfl hv1 ?_ | refine O_cA rfl rfl hcall ?_ | refine O_cA rfl rfl (run_none _) ?_ | refine O_storeV rfl rfl rfl rfl rfl (storeAt_whole hg0 rfl) ?_ | refine ret (.err 11) _ _ _ _ _ _ _ _ _ rfl rfl rfl rfl rfl St.get_put | refine V_O rfl ?_ | refine O_step rfl ?_ | refine O_nil' ?_ | refine V_cT rfl rfl ?_ | refine V_cF rfl rfl ?_ | refine V_cEq rfl rfl ?_ | refine V_cNe rfl rfl ?_ | refine V_cB rfl rfl (fun _ => ?_) (fun _ => ?_) | refine O_gT' rfl ?_ | refine O_gU' rfl ?_ | refine O_gF' rfl rfl ?_ | refine O_gEq rfl ?_ | refine O_gNe rfl ?_ | refine O_gS rfl (fun _ => ?_) (fun _ => ?_) | refine V_fA rfl rfl ?_ | refine V_fAN rfl rfl ?_ | refine V_D rfl ?_ | refine D_step rfl ?_ | refine D_nil' ?_ | refine D_gT' rfl ?_ | refine D_gU' rfl ?_ | refine D_gF' rfl rfl ?_ | refine D_gS rfl (fun _ => ?_) (fun _ => ?_)
    · rw [hi] at hcall
      have hxl : x.length + 1 + y.length = rest.length := by rw [hxy]; simp; omega
      have hs := strR_app x (0 :: y) acc pre.length hx0
      rw [← hxy] at hs
      have hn0 : decide ((x.length : Int) < 0) = false := decide_eq_false (by omega)
      have hw1 : IntKind.i64.wrap (IntKind.i64.wrap ((pre.length : Int) + x.length) + 1) = ((pre.length + x.length + 1 : Nat) : Int) := by rw [wrap_id (n := (pre.length : Int) + x.length) (by omega) (by omega), wrap_id (by omega) (by omega)]; rfl
      cases y with
      | nil =>
        have hs2 : strR rest acc pre.length = .err 11 := by rw [hs]; simp [strR]
        have hge : decide ((b0.length : Int) ≤ IntKind.i64.wrap (IntKind.i64.wrap ((pre.length : Int) + x.length) + 1)) = true := decide_eq_true (by rw [hw1]; simp at hxl; omega)
        rw [hs2]
        refine V_less (.put 0 p (.put 2 _ (.put 5 _ (.put 6 _ .nil)))) (less_put h0 (less_put h2 (less_put h5 (less_put h6 less_nil)))) (V_unroll ?_)
        clear ih
        repeat' first | refine O_slice v1 rfl rfl rfl rfl hv1 ?_ | refine V_cHT hge rfl rfl ?_ | refine O_lenB rfl hp ?_ | refine O_cA rfl rfl hcall ?_ | refine O_cA rfl rfl (run_none _) ?_ | refine O_storeV rfl rfl rfl rfl rfl (storeAt_whole hg0 rfl) ?_ | refine ret (.err 11) _ _ _ _ _ _ _ _ _ rfl rfl rfl rfl rfl St.get_put | refine V_O rfl ?_ | refine O_step rfl ?_ | refine O_nil' ?_ | refine V_cT rfl rfl ?_ | refine V_cF rfl rfl ?_ | refine V_cEq rfl rfl ?_ | refine V_cNe rfl rfl ?_ | refine V_cB rfl rfl (fun _ => ?_) (fun _ => ?_) | refine O_gT' rfl ?_ | refine O_gU' rfl ?_ | refine O_gF' rfl rfl ?_ | refine O_gEq rfl ?_ | refine O_gNe rfl ?_ | refine O_gS rfl (fun _ => ?_) (fun _ => ?_) | refine V_fA rfl rfl ?_ | refine V_fAN rfl rfl ?_ | refine V_D rfl ?_ | refine D_step rfl ?_ | refine D_nil' ?_ | refine D_gT' rfl ?_ | refine D_gU' rfl ?_ | refine D_gF' rfl rfl ?_ | refine D_gS rfl (fun _ => ?_) (fun _ => ?_)
        all_goals (exfalso; simp at *; try omega)
      | cons d y =>
        have hge : decide ((b0.length : Int) ≤ IntKind.i64.wrap (IntKind.i64.wrap ((pre.length : Int) + x.length) + 1)) = false := decide_eq_false (by rw [hw1]; simp at hxl; omega)
        have hj : IntKind.i64.wrap ((pre.length : Int) + x.length) = ((pre.length + x.length : Nat) : Int) := by rw [wrap_id (by omega) (by omega)]; rfl
        obtain ⟨v2, hv2, hb2⟩ := hp.lohi st.get (k := .i64) (k' := .i64) (m := (pre.length : Int)) (m' := IntKind.i64.wrap ((pre.length : Int) + x.length)) (by omega) (by rw [hj]; omega) (by rw [hj]; omega)
        have hb2' : BV v2 x := by
          have : (b0.drop (pre.length : Int).toNat).take ((IntKind.i64.wrap ((pre.length : Int) + x.length)).toNat - (pre.length : Int).toNat) = x := by
            rw [hj, hb, hxy, Int.toNat_natCast, Int.toNat_natCast, List.drop_left, Nat.add_sub_cancel_left, List.take_left]
          rw [this] at hb2
          exact hb2
        obtain ⟨v3, st3, k1, k2⟩ := hA.append x (by simp at hxl; omega)
        obtain ⟨hAT3, hn3, ht3, d0, d1, d2, d3, hg3⟩ := id k2
        have hel := RB.elems (AccT.rb (st := st3) hAT3)
        have hw2 : IntKind.i64.wrap ((pre.length : Int) + IntKind.i64.wrap ((x.length : Int) + 2)) = ((pre.length + x.length + 2 : Nat) : Int) := by rw [wrap_id (n := (x.length : Int) + 2) (by omega) (by omega), wrap_id (by omega) (by omega)]; omega
        have hw4 : IntKind.i64.wrap (IntKind.i64.wrap ((pre.length : Int) + IntKind.i64.wrap ((x.length : Int) + 2)) - 1) = ((pre.length + x.length + 1 : Nat) : Int) := by rw [hw2, wrap_id (by omega) (by omega)]; omega
        have hat2 : At 1 p (IntKind.i64.wrap (IntKind.i64.wrap ((pre.length : Int) + IntKind.i64.wrap ((x.length : Int) + 2)) - 1)) [.int .u8 d.toNat] := by
          rw [hw4]
          refine hp.at (by omega) ?_
          rw [Int.toNat_natCast, hb, hxy]
          rw [List.getElem?_append_right (by omega), List.getElem?_append_right (by omega)]
          rw [show pre.length + x.length + 1 - pre.length - x.length = 1 by omega]
          rfl
        by_cases hd1 : d = 1
        · subst hd1
          have hs1 : strR rest acc pre.length = made (.mk 2 0 (acc ++ x) []) (pre.length + x.length + 2) := by rw [hs]; simp [strR]
          have hmade := run_made 2 0 (acc ++ x) (pre.length + x.length + 2) (by simp [I64]) (by simp [I64]) (by simp at hxl ⊢; omega)
          rw [← hw2] at hmade
          have hstr := run_Str (acc ++ x)
          obtain ⟨a, b, s, c', d', hf⟩ := trPV_form (made (.mk 2 0 (acc ++ x) []) (pre.length + x.length + 2))
          rw [hf] at hmade
          rw [hs1]
          refine V_less (.put 0 p (.put 2 _ (.put 5 _ (.put 6 _ .nil)))) (less_put h0 (less_put h2 (less_put h5 (less_put h6 less_nil)))) (V_unroll ?_)
          clear ih
          repeat' first | refine O_slice v1 rfl rfl rfl rfl hv1 ?_ | refine O_slice v2 rfl rfl rfl rfl hv2 ?_ | refine V_cH hge rfl rfl ?_ | refine O_lenB rfl hp ?_ | refine O_cA rfl rfl hcall ?_ | refine O_at rfl rfl hat2 ?_ | refine O_append rfl rfl (srcOf_bytes hb2') (okEls_bytes _) (by decide) (by decide) k1 ?_ | refine O_toStrA rfl hel ?_ | refine O_cA rfl rfl hstr ?_ | refine O_cA rfl rfl hmade ?_ | refine O_storeV rfl rfl rfl rfl rfl (storeAt_whole hg3 rfl) ?_ | refine ret _ _ _ _ _ _ _ _ _ _ hf rfl rfl rfl rfl St.get_put | refine V_O rfl ?_ | refine O_step rfl ?_ | refine O_nil' ?_ | refine V_cT rfl rfl ?_ | refine V_cF rfl rfl ?_ | refine V_cEq rfl rfl ?_ | refine V_cNe rfl rfl ?_ | refine V_cB rfl rfl (fun _ => ?_) (fun _ => ?_) | refine O_gT' rfl ?_ | refine O_gU' rfl ?_ | refine O_gF' rfl rfl ?_ | refine O_gEq rfl ?_ | refine O_gNe rfl ?_ | refine O_gS rfl (fun _ => ?_) (fun _ => ?_) | refine V_fA rfl rfl ?_ | refine V_fAN rfl rfl ?_ | refine V_D rfl ?_ | refine D_step rfl ?_ | refine D_nil' ?_ | refine D_gT' rfl ?_ | refine D_gU' rfl ?_ | refine D_gF' rfl rfl ?_ | refine D_gS rfl (fun _ => ?_) (fun _ => ?_)
          all_goals (exfalso; simp at *; try omega)
        · by_cases hd2 : d = 255
          · subst hd2
            obtain ⟨v4, st4, j1, j2⟩ := k2.grow [0] (by simp) (by simp at hxl ⊢; omega)
            have hs1 : strR rest acc pre.length = strR y (acc ++ x ++ [0]) (pre.length + x.length + 2) := by rw [hs]; simp [strR]
            have fin : ∀ (fr : List Fr) (xx : EX) (e' : EC), adv 200 fr xx = ([.code (.loop lp_codec_str_0)], .normal) → e'.get 0 = some p → e'.get 2 = some (.ptr 0 0) → e'.get 5 = some v4 → e'.get 6 = some (.int .i64 (IntKind.i64.wrap ((pre.length : Int) + IntKind.i64.wrap ((x.length : Int) + 2)))) → V T (PE (strQ (strR rest acc pre.length))) fr xx e' st4 := fun fr xx e' hadv g0 g2 g5 g6 => V_adv hadv (by
              have hpx : (pre ++ x ++ [0, 255]).length = pre.length + x.length + 2 := by simp; omega
              rw [hw2, ← hpx] at g6
              rw [hs1, ← hpx]
              exact ih y (pre ++ x ++ [0, 255]) (acc ++ x ++ [0]) e' st4 v4 (by simp at hxl; omega) (by rw [hb, hxy]; simp) (by simp; omega) j2 g0 g2 g5 g6)
            refine V_less (.put 0 p (.put 2 _ (.put 5 _ (.put 6 _ .nil)))) (less_put h0 (less_put h2 (less_put h5 (less_put h6 less_nil)))) (V_unroll ?_)
            clear ih
            repeat' first | refine O_slice v1 rfl rfl rfl rfl hv1 ?_ | refine O_slice v2 rfl rfl rfl rfl hv2 ?_ | refine V_cH hge rfl rfl ?_ | refine O_lenB rfl hp ?_ | refine O_cA rfl rfl hcall ?_ | refine O_at rfl rfl hat2 ?_ | refine O_append rfl rfl (srcOf_bytes hb2') (okEls_bytes _) (by decide) (by decide) k1 ?_ | refine O_append (src := byteCells [0]) rfl rfl rfl (okEls_bytes _) (by decide) (by decide) j1 ?_ | refine fin _ _ _ rfl rfl rfl rfl rfl | refine V_O rfl ?_ | refine O_step rfl ?_ | refine O_nil' ?_ | refine V_cT rfl rfl ?_ | refine V_cF rfl rfl ?_ | refine V_cEq rfl rfl ?_ | refine V_cNe rfl rfl ?_ | refine V_cB rfl rfl (fun _ => ?_) (fun _ => ?_) | refine O_gT' rfl ?_ | refine O_gU' rfl ?_ | refine O_gF' rfl rfl ?_ | refine O_gEq rfl ?_ | refine O_gNe rfl ?_ | refine O_gS rfl (fun _ => ?_) (fun _ => ?_) | refine V_fA rfl rfl ?_ | refine V_fAN rfl rfl ?_ | refine V_D rfl ?_ | refine D_step rfl ?_ | refine D_nil' ?_ | refine D_gT' rfl ?_ | refine D_gU' rfl ?_ | refine D_gF' rfl rfl ?_ | refine D_gS rfl (fun _ => ?_) (fun _ => ?_)
            all_goals (exfalso; clear fin; simp at *; try omega)
          · have hs1 : strR rest acc pre.length = .err 30 := by rw [hs]; simp [strR, hd1, hd2]
            have e1 : decide ((d.toNat : Int) = 1) = false := decide_eq_false (fun h => hd1 (UInt8.toNat_inj.1 (by have : (1 : UInt8).toNat = 1 := rfl; omega)))
            have e2 : decide ((d.toNat : Int) = 255) = false := decide_eq_false (fun h => hd2 (UInt8.toNat_inj.1 (by have : (255 : UInt8).toNat = 255 := rfl; omega)))
            rw [hs1]
            refine V_less (.put 0 p (.put 2 _ (.put 5 _ (.put 6 _ .nil)))) (less_put h0 (less_put h2 (less_put h5 (less_put h6 less_nil)))) (V_unroll ?_)
            clear ih
            repeat' first | refine O_slice v1 rfl rfl rfl rfl hv1 ?_ | refine O_slice v2 rfl rfl rfl rfl hv2 ?_ | refine V_cH hge rfl rfl ?_ | refine V_cH e1 rfl rfl ?_ | refine V_cH e2 rfl rfl ?_ | refine O_lenB rfl hp ?_ | refine O_cA rfl rfl hcall ?_ | refine O_at rfl rfl hat2 ?_ | refine O_append rfl rfl (srcOf_bytes hb2') (okEls_bytes _) (by decide) (by decide) k1 ?_ | refine O_cA rfl rfl (run_none _) ?_ | refine O_storeV rfl rfl rfl rfl rfl (storeAt_whole hg3 rfl) ?_ | refine ret (.err 30) _ _ _ _ _ _ _ _ _ rfl rfl rfl rfl rfl St.get_put | refine V_O rfl ?_ | refine O_step rfl ?_ | refine O_nil' ?_ | refine V_cT rfl rfl ?_ | refine V_cF rfl rfl ?_ | refine V_cEq rfl rfl ?_ | refine V_cNe rfl rfl ?_ | refine V_cB rfl rfl (fun _ => ?_) (fun _ => ?_) | refine O_gT' rfl ?_ | refine O_gU' rfl ?_ | refine O_gF' rfl rfl ?_ | refine O_gEq rfl ?_ | refine O_gNe rfl ?_ | refine O_gS rfl (fun _ => ?_) (fun _ => ?_) | refine V_fA rfl rfl ?_ | refine V_fAN rfl rfl ?_ | refine V_D rfl ?_ | refine D_step rfl ?_ | refine D_nil' ?_ | refine D_gT' rfl ?_ | refine D_gU' rfl ?_ | refine D_gF' rfl rfl ?_ | refine D_gS rfl (fun _ => ?_) (fun _ => ?_)
            all_goals (exfalso; simp at *; try omega)
theorem run_str {p : PV} {c : UInt8} {r : List UInt8} (hp : BV p (c :: r)) (hb : (c :: r).length ≤ 1073741824) : T.R (.call n_codec_str [p] (trPV (strR r [] 1))) := by
  have hl := fun e st v hA h0 h2 h5 h6 => str_loop p (c :: r) hp hb (r.length + 1) r [c] [] e st v (by omega) rfl (by simp) hA h0 h2 h5 h6
  refine call_V rfl rfl ?_
  repeat' first | refine V_cutA rfl (hl _ (emptySt.new (.var [.int .i64 0, .int .i64 0, .str [], .nilSl])) _ ⟨.inl ⟨rfl, rfl⟩, by show 0 < 1; omega, by simp [tokOf], _, _, _, _, rfl⟩ rfl rfl rfl rfl) ?_ | refine O_step rfl ?_ | refine O_stepL rfl ?_ | refine V_O rfl ?_ | refine O_step rfl ?_ | refine O_nil' ?_ | refine V_cT rfl rfl ?_ | refine V_cF rfl rfl ?_ | refine V_cEq rfl rfl ?_ | refine V_cNe rfl rfl ?_ | refine V_cB rfl rfl (fun _ => ?_) (fun _ => ?_) | refine O_gT' rfl ?_ | refine O_gU' rfl ?_ | refine O_gF' rfl rfl ?_ | refine O_gEq rfl ?_ | refine O_gNe rfl ?_ | refine O_gS rfl (fun _ => ?_) (fun _ => ?_) | refine V_fA rfl rfl ?_ | refine V_fAN rfl rfl ?_ | refine V_D rfl ?_ | refine D_step rfl ?_ | refine D_nil' ?_ | refine D_gT' rfl ?_ | refine D_gU' rfl ?_ | refine D_gF' rfl rfl ?_ | refine D_gS rfl (fun _ => ?_) (fun _ => ?_)
  rintro x e' st' ⟨rfl, a, b, s, m, d, ht, rfl, hg0⟩
  have ht' : trPV (strR r [] 1) = _ := ht
  rw [ht']
  exact V_fin rfl (resG_c3 rfl hg0 rfl rfl rfl) (Pl.view (by (repeat' (first | exact Pl.int _ _ | exact Pl.bool _ | exact Pl.str _ | exact Pl.nilSl | exact pl_nil | refine pl_cons ?_ ?_ | refine Pl.tuple _ ?_ | refine Pl.agg _ ?_ | refine Pl.func _ _ ?_ | assumption | refine Pl.iptr _ _ ?_ | exact pll_nil | refine pll_cons ?_ ?_ | refine Pl.sl _ _ ?_)); first | done | fail)) rfl
end Go.Proofs.YtfdebgebnkbagaaDoor

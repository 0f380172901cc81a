/- codec.rest: the loop over the values that stand within. -/
import Derived.Test.YtfdebgebnkbagaaDoorReadD
set_option linter.unusedVariables false
set_option linter.unusedSimpArgs false
namespace Go.Proofs.YtfdebgebnkbagaaDoor
open Go Go.AM Go.RowKit
def RowOf (l : List Val) (xs : List (List PV)) : Prop := xs.length = l.length ∧ ∀ (j : Nat) (v : Val) (cs : List PV), l[j]? = some v → xs[j]? = some cs → VC v cs
theorem RowOf.snoc {l : List Val} {xs : List (List PV)} {v : Val} {cs : List PV} (h : RowOf l xs) (hv : VC v cs) : RowOf (l ++ [v]) (xs ++ [cs]) := by
  refine ⟨by simp [h.1], fun j w ds hj hd => ?_⟩
  by_cases hjl : j < l.length
  · rw [List.getElem?_append_left hjl] at hj
    rw [List.getElem?_append_left (by rw [h.1]; exact hjl)] at hd
    exact h.2 j w ds hj hd
  · rw [List.getElem?_append_right (by omega)] at hj
    rw [List.getElem?_append_right (by rw [h.1]; omega), h.1] at hd
    have h0 : j - l.length = 0 := by
      have := (List.getElem?_eq_some_iff.1 hj).1
      simp at this
      omega
    rw [h0] at hj hd
    injection hj with hj
    injection hd with hd
    subst hj hd
    exact hv
theorem AccT.cells {sz : Nat} {st : St} {v : PV} {es : List (List PV)} (h : AccT sz st v es) : v.cells = [v] ∧ PV.one v = true := by
  rcases h with ⟨rfl, _⟩ | ⟨t, g, rfl, _⟩ <;> exact ⟨rfl, rfl⟩
theorem AccT.put {sz : Nat} {st : St} {v : PV} {es : List (List PV)} (h : AccT sz st v es) {t : Nat} (ht : tokOf v ≠ some t) (k : Tok) : AccT sz (st.put t k) v es := by
  rcases h with h | ⟨u, g, rfl, hg, hlt⟩
  · exact .inl h
  · refine .inr ⟨u, g, rfl, ?_, hlt⟩
    rw [St.get_put_old (fun e => ht (by rw [e]; rfl))]
    exact hg
def LS (k : Int) (st : St) (v : PV) (xs : List (List PV)) : Prop := AccT 4 st v xs ∧ 2 ≤ st.next ∧ st.get 0 = some (.var [.int .i64 k, .int .i64 0, .str [], v]) ∧ (∃ a b c d, st.get 1 = some (.var [a, b, c, d])) ∧ tokOf v ≠ some 0 ∧ tokOf v ≠ some 1
theorem LS.var {k : Int} {st : St} {v : PV} {xs : List (List PV)} (h : LS k st v xs) (z cs : List PV) : LS k ((st.new (.var z)).put st.next (.var cs)) v xs := by
  obtain ⟨h1, h2, h3, ⟨a, b, c, d, h4⟩, h5, h6⟩ := h
  have hlt : ∀ u, u < st.next → ((st.new (.var z)).put st.next (.var cs)).get u = st.get u := fun u hu => by rw [St.get_put_old (by omega), St.get_new_old hu]
  refine ⟨?_, by simp [St.new, St.put]; omega, by rw [hlt 0 (by omega)]; exact h3, ⟨a, b, c, d, by rw [hlt 1 (by omega)]; exact h4⟩, h5, h6⟩
  rcases h1 with h | ⟨t, g, rfl, hg, hl⟩
  · exact .inl h
  · exact .inr ⟨t, g, rfl, by rw [hlt t hl]; exact hg, by simp [St.new, St.put]; omega⟩
theorem LS.grow {k : Int} {st : St} {v : PV} {xs : List (List PV)} (h : LS k st v xs) (cs : List PV) (hr : (xs.length + 1) * 56 ≤ roomLen) : ∃ v' st', appendTo st 4 56 v [cs] = some (v', st') ∧ st'.get 0 = some (.var [.int .i64 k, .int .i64 0, .str [], v]) ∧ v'.cells = [v'] ∧ PV.one v' = true ∧ LS k (st'.put 0 (.var [.int .i64 k, .int .i64 0, .str [], v'])) v' (xs ++ [cs]) := by
  obtain ⟨h1, h2, h3, ⟨a, b, c, d, h4⟩, h5, h6⟩ := h
  obtain ⟨v', st', k1, k2, k3⟩ := h1.grow (bytes := 56) (src := [cs]) (by simp) (by simpa using hr)
  have hn := k3.2.1
  have t0 : ∀ u, u < 2 → tokOf v ≠ some u → tokOf v' ≠ some u := fun u hu hv => by
    rcases k3.2.2.1 with h | ⟨m, h, hm⟩
    · rw [h]; exact hv
    · rw [h]; intro e; injection e; omega
  refine ⟨v', st', k1, by rw [k3.2.2.2 0 (by omega) h5]; exact h3, (AccT.cells k2).1, (AccT.cells k2).2, AccT.put k2 (t0 0 (by omega) h5) _, by simp [St.put]; omega, St.get_put, ⟨a, b, c, d, by rw [St.get_put_old (by omega), k3.2.2.2 1 (by omega) h6]; exact h4⟩, t0 0 (by omega) h5, t0 1 (by omega) h6⟩
theorem okEls1 {cs : List PV} (h4 : cs.length = 4) (h : cs.all PV.one = true) : okEls 4 [cs] = true := by
  simp only [okEls, List.all_cons, List.all_nil, Bool.and_true, Bool.and_eq_true]
  exact ⟨by simp [h4], h⟩
def restP (k : Int) (l : List Val) (t : Except Int (List Val × Nat)) : EX → EC → St → Prop := fun x e' st' => (x = .exit 1 ∧ ∃ l' n v xs, t = .ok (l', n) ∧ LS k st' v xs ∧ RowOf (l ++ l') xs ∧ xs.length ≤ 512 ∧ e' = .put 3 (.int .i64 (n : Nat)) (.put 5 (.ptr 0 0) (.put 10 (.ptr 1 0) .nil))) ∨ (x = .ret ∧ ∃ err, t = .error err ∧ st'.get 1 = some (.var [.int .i64 0, .int .i64 0, .str [], .nilSl]) ∧ e' = .put 10 (.ptr 1 0) (.put 11 (.int .i64 0) (.put 12 (.int .i64 err) .nil)))
set_option maxHeartbeats 4000000 in
theorem rest_loop (k d : Int) (hd : 0 ≤ d ∧ d ≤ 100) (U : Nat) (hU : U ≤ 512) (p : PV) (b0 : List UInt8) (hp : BV p b0) (hb0 : b0.length ≤ 1073741824) (rd : List UInt8 → TR) (hle : RdLe rd) (hrd : ∀ (q : PV) (b : List UInt8), BV q b → b.length ≤ 1073741824 → RdOk n_codec_read [q, .int .i64 (d + 1)] (rd b)) :
    ∀ (m i n : Nat) (l : List Val) (xs : List (List PV)) (e : EC) (st : St) (v : PV), i + m = U → xs.length = i → n ≤ b0.length → RowOf l xs → LS k st v xs → e.get 2 = some p → e.get 3 = some (.int .i64 n) → e.get 4 = some (.int .i64 d) → e.get 5 = some (.ptr 0 0) → e.get 10 = some (.ptr 1 0) → e.get 81 = some (.int .u64 U) → e.get 82 = some (.int .u64 i) →
    V T (PE (restP k l (readVs rd m (b0.drop n) n))) [.code (.loop lp_codec_rest_0)] .normal e st := by
  intro m
  have out : ∀ (l : List Val) (t : Except Int (List Val × Nat)) (n : Nat) (xs : List (List PV)) (v : PV) (fr : List Fr) (x : EX) (e' : EC) (st : St), t = .ok ([], n) → LS k st v xs → RowOf l xs → xs.length ≤ 512 → adv 200 fr x = ([], .exit 1) → e'.get 3 = some (.int .i64 n) → e'.get 5 = some (.ptr 0 0) → e'.get 10 = some (.ptr 1 0) → V T (PE (restP k l t)) fr x e' st := fun l t n xs v fr x e' st ht hL hR hxl hadv g3 g5 g10 =>
    V_less (.put 3 _ (.put 5 _ (.put 10 _ .nil))) (less_put g3 (less_put g5 (less_put g10 less_nil))) (V_endP hadv (.inl ⟨rfl, [], n, v, xs, ht, hL, by simpa using hR, hxl, rfl⟩))
  have ret : ∀ (l : List Val) (t : Except Int (List Val × Nat)) (err : Int) (fr : List Fr) (x : EX) (e' : EC) (st : St), t = .error err → adv 200 fr x = ([], .ret) → st.get 1 = some (.var [.int .i64 0, .int .i64 0, .str [], .nilSl]) → e'.get 10 = some (.ptr 1 0) → e'.get 11 = some (.int .i64 0) → e'.get 12 = some (.int .i64 err) → V T (PE (restP k l t)) fr x e' st := fun l t err fr x e' st ht hadv hg g10 g11 g12 =>
    V_less (.put 10 _ (.put 11 _ (.put 12 _ .nil))) (less_put g10 (less_put g11 (less_put g12 less_nil))) (V_endP hadv (.inr ⟨rfl, err, ht, hg, rfl⟩))
  induction m with
  | zero =>
    intro i n l xs e st v him hxi hn hR hL h2 h3 h4 h5 h10 h81 h82
    have hlt : ¬ ((i : Int) < (U : Int)) := by omega
    refine V_less (.put 3 _ (.put 5 _ (.put 10 _ (.put 81 _ (.put 82 _ .nil))))) (less_put h3 (less_put h5 (less_put h10 (less_put h81 (less_put h82 less_nil))))) (V_unroll ?_)
    repeat' first | refine O_is (dec_not hlt) rfl ?_ | refine out _ _ _ _ _ _ _ _ _ rfl hL hR (by omega) rfl rfl rfl rfl | refine V_O rfl ?_ | refine O_step rfl ?_ | refine O_nil' ?_ | refine V_cT rfl rfl ?_ | refine V_cF rfl rfl ?_ | refine V_cEq rfl rfl ?_ | refine V_cNe rfl rfl ?_ | refine V_cB rfl rfl (fun _ => ?_) (fun _ => ?_) | refine O_gT' rfl ?_ | refine O_gU' rfl ?_ | refine O_gF' rfl rfl ?_ | refine O_gEq rfl ?_ | refine O_gNe rfl ?_ | refine O_gS rfl (fun _ => ?_) (fun _ => ?_) | refine V_fA rfl rfl ?_ | refine V_fAN rfl rfl ?_ | refine V_D rfl ?_ | refine D_step rfl ?_ | refine D_nil' ?_ | refine D_gT' rfl ?_ | refine D_gU' rfl ?_ | refine D_gF' rfl rfl ?_ | refine D_gS rfl (fun _ => ?_) (fun _ => ?_)
  | succ m ih =>
    intro i n l xs e st v him hxi hn hR hL h2 h3 h4 h5 h10 h81 h82
    have hlt : ((i : Int) < (U : Int)) := by omega
    obtain ⟨v1, hv1, hb1⟩ := hp.lo st.get (k := .i64) (m := (n : Int)) (by omega) (by omega)
    rw [Int.toNat_natCast] at hb1
    have pl1 := hb1.pl
    have hwd : PV.int .i64 (IntKind.i64.wrap (d + 1)) = PV.int .i64 (d + 1) := int_is (by rw [wrap_i64]; omega)
    have hdl : (b0.drop n).length = b0.length - n := List.length_drop ..
    rcases hrd v1 (b0.drop n) hb1 (by omega) with ⟨err, ht, hc⟩ | ⟨w, kk, cs, ht, hvc, hc⟩
    · have hne := (hle (b0.drop n)).1 err ht
      have hr : readVs rd (m + 1) (b0.drop n) n = .error err := by simp only [readVs, ht]
      rw [hr]
      have hL2 := hL.var [.int .i64 0, .int .i64 0, .str [], .nilSl] [.int .i64 0, .int .i64 0, .str [], .nilSl]
      have hst0 : storeAt (st.new (.var [.int .i64 0, .int .i64 0, .str [], .nilSl])) (.ptr st.next 0) (.agg [.int .i64 0, .int .i64 0, .str [], .nilSl]) = some ((st.new (.var [.int .i64 0, .int .i64 0, .str [], .nilSl])).put st.next (.var [.int .i64 0, .int .i64 0, .str [], .nilSl])) := storeAt_whole St.get_new rfl
      generalize (st.new (.var [.int .i64 0, .int .i64 0, .str [], .nilSl])).put st.next (.var [.int .i64 0, .int .i64 0, .str [], .nilSl]) = S at hL2 hst0
      obtain ⟨_, _, _, ⟨a, b, c, dd, hg1⟩, _, _⟩ := hL2
      refine V_less (.put 2 p (.put 3 _ (.put 4 _ (.put 5 _ (.put 10 _ (.put 81 _ (.put 82 _ .nil))))))) (less_put h2 (less_put h3 (less_put h4 (less_put h5 (less_put h10 (less_put h81 (less_put h82 less_nil))))))) (V_unroll ?_)
      clear ih out
      repeat' first | refine O_is (dec_is hlt) rfl ?_ | refine O_slice v1 rfl rfl rfl rfl hv1 ?_ | refine O_is hwd rfl ?_ | refine O_cA rfl rfl hc ?_ | refine O_storeV rfl rfl rfl rfl rfl hst0 ?_ | refine O_is (ndec_not hne) rfl ?_ | refine O_cA rfl rfl (run_none _) ?_ | refine O_storeV rfl rfl rfl rfl rfl (storeAt_whole hg1 rfl) ?_ | refine ret _ _ err _ _ _ _ rfl rfl St.get_put rfl rfl rfl | refine O_step rfl ?_ | refine O_stepL rfl ?_ | refine V_O rfl ?_ | refine O_step rfl ?_ | refine O_nil' ?_ | refine V_cT rfl rfl ?_ | refine V_cF rfl rfl ?_ | refine V_cEq rfl rfl ?_ | refine V_cNe rfl rfl ?_ | refine V_cB rfl rfl (fun _ => ?_) (fun _ => ?_) | refine O_gT' rfl ?_ | refine O_gU' rfl ?_ | refine O_gF' rfl rfl ?_ | refine O_gEq rfl ?_ | refine O_gNe rfl ?_ | refine O_gS rfl (fun _ => ?_) (fun _ => ?_) | refine V_fA rfl rfl ?_ | refine V_fAN rfl rfl ?_ | refine V_D rfl ?_ | refine D_step rfl ?_ | refine D_nil' ?_ | refine D_gT' rfl ?_ | refine D_gU' rfl ?_ | refine D_gF' rfl rfl ?_ | refine D_gS rfl (fun _ => ?_) (fun _ => ?_)
    · have hkl := (hle (b0.drop n)).2 w kk ht
      have hr : readVs rd (m + 1) (b0.drop n) n = (readVs rd m (b0.drop (n + kk)) (n + kk)).map fun r => (w :: r.1, r.2) := by simp only [readVs, ht, List.drop_drop]
      have hL2 := hL.var [.int .i64 0, .int .i64 0, .str [], .nilSl] cs
      have hst0 : storeAt (st.new (.var [.int .i64 0, .int .i64 0, .str [], .nilSl])) (.ptr st.next 0) (.agg cs) = some ((st.new (.var [.int .i64 0, .int .i64 0, .str [], .nilSl])).put st.next (.var cs)) := storeAt_whole St.get_new (by rw [hvc.len4]; rfl)
      have hgS : ((st.new (.var [.int .i64 0, .int .i64 0, .str [], .nilSl])).put st.next (.var cs)).get st.next = some (.var cs) := St.get_put
      generalize (st.new (.var [.int .i64 0, .int .i64 0, .str [], .nilSl])).put st.next (.var cs) = S at hL2 hst0 hgS
      have h0 : ¬ ((0 : Int) ≠ 0) := by omega
      have plc := hvc.pl
      have hR2 := hR.snoc hvc
      obtain ⟨v2, st2, k1, k2, k3, k4, k5⟩ := hL2.grow cs (by rw [hxi]; simp only [roomLen]; omega)
      have hg0 := hL2.2.2.1
      have hw3 : PV.int .i64 (IntKind.i64.wrap ((n : Int) + (kk : Int))) = PV.int .i64 ((n + kk : Nat) : Int) := int_is (by rw [wrap_i64]; omega)
      have hwi : PV.int .u64 (IntKind.u64.wrap ((i : Int) + 1)) = PV.int .u64 ((i + 1 : Nat) : Int) := int_is (by rw [wrap_u64]; omega)
      have fin : ∀ (fr : List Fr) (x : EX) (e' : EC), adv 200 fr x = ([.code (.loop lp_codec_rest_0)], .normal) → e'.get 2 = some p → e'.get 3 = some (.int .i64 ((n + kk : Nat) : Int)) → e'.get 4 = some (.int .i64 d) → e'.get 5 = some (.ptr 0 0) → e'.get 10 = some (.ptr 1 0) → e'.get 81 = some (.int .u64 U) → e'.get 82 = some (.int .u64 ((i + 1 : Nat) : Int)) → V T (PE (restP k l (readVs rd (m + 1) (b0.drop n) n))) fr x e' (st2.put 0 (.var [.int .i64 k, .int .i64 0, .str [], v2])) := fun fr x e' hadv g2 g3 g4 g5 g10 g81 g82 => V_adv hadv (by
        rw [hr]
        refine V_monoP (ih (i + 1) (n + kk) (l ++ [w]) (xs ++ [cs]) e' _ v2 (by omega) (by simp [hxi]) (by omega) hR2 k5 g2 g3 g4 g5 g10 g81 g82) ?_
        rintro x e2 st3 (⟨hx, l', n', v', xs', htt, hL', hR', hxl, he⟩ | ⟨hx, err, htt, hg, he⟩)
        · refine .inl ⟨hx, w :: l', n', v', xs', by rw [htt]; rfl, hL', by simpa using hR', hxl, he⟩
        · exact .inr ⟨hx, err, by rw [htt]; rfl, hg, he⟩)
      obtain ⟨wk, wn, ws, wl⟩ := w
      obtain ⟨q1, q2, q3, q, rfl, hq⟩ := hvc.open
      have plq := hq.pl
      have oq := hvc.one
      refine V_less (.put 2 p (.put 3 _ (.put 4 _ (.put 5 _ (.put 10 _ (.put 81 _ (.put 82 _ .nil))))))) (less_put h2 (less_put h3 (less_put h4 (less_put h5 (less_put h10 (less_put h81 (less_put h82 less_nil))))))) (V_unroll ?_)
      clear ih out ret
      repeat' first | refine O_is (dec_is hlt) rfl ?_ | refine O_slice v1 rfl rfl rfl rfl hv1 ?_ | refine O_is hwd rfl ?_ | refine O_cA rfl rfl hc ?_ | refine O_storeV rfl rfl oq rfl rfl hst0 ?_ | refine O_is hw3 rfl ?_ | refine O_is hwi rfl ?_ | refine O_loadV rfl hg0 rfl ?_ | refine O_loadP rfl hgS rfl ?_ | refine O_append (src := [[.int .i64 wk, .int .i64 wn, .str ws, q]]) rfl rfl rfl (okEls1 rfl oq) (by decide) (by decide) k1 ?_ | refine O_storeP rfl rfl k3 k4 k2 (by show 3 + 1 ≤ 4; omega) rfl ?_ | refine fin _ _ _ rfl rfl rfl rfl rfl rfl rfl rfl | refine O_step rfl ?_ | refine O_stepL rfl ?_ | refine V_O rfl ?_ | refine O_step rfl ?_ | refine O_nil' ?_ | refine V_cT rfl rfl ?_ | refine V_cF rfl rfl ?_ | refine V_cEq rfl rfl ?_ | refine V_cNe rfl rfl ?_ | refine V_cB rfl rfl (fun _ => ?_) (fun _ => ?_) | refine O_gT' rfl ?_ | refine O_gU' rfl ?_ | refine O_gF' rfl rfl ?_ | refine O_gEq rfl ?_ | refine O_gNe rfl ?_ | refine O_gS rfl (fun _ => ?_) (fun _ => ?_) | refine V_fA rfl rfl ?_ | refine V_fAN rfl rfl ?_ | refine V_D rfl ?_ | refine D_step rfl ?_ | refine D_nil' ?_ | refine D_gT' rfl ?_ | refine D_gU' rfl ?_ | refine D_gF' rfl rfl ?_ | refine D_gS rfl (fun _ => ?_) (fun _ => ?_)
end Go.Proofs.YtfdebgebnkbagaaDoor

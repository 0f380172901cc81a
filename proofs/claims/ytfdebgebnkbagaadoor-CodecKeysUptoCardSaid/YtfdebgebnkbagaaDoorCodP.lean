/- rambleref03.Values. -/
import Derived.Test.YtfdebgebnkbagaaDoorCodO
import Derived.Test.YtfdebgebnkbagaaDoorCodN
set_option linter.unusedVariables false
set_option linter.unusedSimpArgs false
namespace Go.Proofs.YtfdebgebnkbagaaDoor
open Go Go.AM Go.RowKit

theorem vals3_loop : ∀ (m : Nat) (b : List UInt8) (p : PV) (l : List Val) (e : EC) (st : St) (v : PV) (t : Except Int (List Val)), b.length ≤ m → b.length + l.length ≤ 1048576 → BV p b → t = (valsR m b).map (l ++ ·) → (∀ w ∈ l, Scal w) → AccT 4 st v (l.map cellsS) → e.get 0 = some p → e.get 4 = some v →
    V T (PE (valsP t)) [.code (.loop lp_rambleref03_Values_0)] .normal e st := by
  intro m
  have out : ∀ (t : Except Int (List Val)) (l : List Val) (fr : List Fr) (x : EX) (e' : EC) (st : St) (v : PV), t = .ok l → (∀ w ∈ l, Scal w) → l.length ≤ 1048576 → AccT 4 st v (l.map cellsS) → adv 200 fr x = ([], .exit 0) → e'.get 4 = some v → V T (PE (valsP t)) fr x e' st := fun t l fr x e' st v ht hs hl hA hadv g4 =>
    V_less (.put 4 v .nil) (less_put g4 less_nil) (V_endP hadv (.inl ⟨rfl, v, l, ht, hs, hl, rfl, hA⟩))
  have ret : ∀ (t : Except Int (List Val)) (err : Int) (fr : List Fr) (x : EX) (e' : EC) (st : St), t = .error err → adv 200 fr x = ([], .ret) → e'.get 2 = some .nilSl → e'.get 3 = some (.int .i64 err) → V T (PE (valsP t)) fr x e' st := fun t err fr x e' st ht hadv g2 g3 =>
    V_less (.put 2 _ (.put 3 _ .nil)) (less_put g2 (less_put g3 less_nil)) (V_endP hadv (.inr ⟨err, rfl, ht, rfl⟩))
  have emp : ∀ (m : Nat) (p : PV) (l : List Val) (e : EC) (st : St) (v : PV) (t : Except Int (List Val)), l.length ≤ 1048576 → BV p [] → t = .ok l → (∀ w ∈ l, Scal w) → AccT 4 st v (l.map cellsS) → e.get 0 = some p → e.get 4 = some v → V T (PE (valsP t)) [.code (.loop lp_rambleref03_Values_0)] .normal e st := fun m p l e st v t hl hp ht hs hA h0 h4 => by
    refine V_less (.put 0 p (.put 4 _ .nil)) (less_put h0 (less_put h4 less_nil)) (V_unroll ?_)
    repeat' first | refine O_lenB rfl hp ?_ | refine out _ l _ _ _ _ _ ht hs hl hA rfl rfl | refine V_O rfl ?_ | refine O_step rfl ?_ | refine O_nil' ?_ | refine V_cT rfl rfl ?_ | refine V_cF rfl rfl ?_ | refine V_cEq rfl rfl ?_ | refine V_cNe rfl rfl ?_ | refine V_cB rfl rfl (fun _ => ?_) (fun _ => ?_) | refine O_gT' rfl ?_ | refine O_gU' rfl ?_ | refine O_gF' rfl rfl ?_ | refine O_gEq rfl ?_ | refine O_gNe rfl ?_ | refine O_gS rfl (fun _ => ?_) (fun _ => ?_) | refine V_fin rfl rfl (Pl.view (by (repeat' (first | exact Pl.int _ _ | exact Pl.bool _ | exact Pl.str _ | exact Pl.nilSl | exact pl_nil | refine pl_cons ?_ ?_ | refine Pl.tuple _ ?_ | refine Pl.agg _ ?_ | refine Pl.func _ _ ?_ | assumption | refine Pl.iptr _ _ ?_ | exact pll_nil | refine pll_cons ?_ ?_ | refine Pl.sl _ _ ?_)); first | done | fail)) ?_ | refine V_finN rfl rfl (Pl.view (by (repeat' (first | exact Pl.int _ _ | exact Pl.bool _ | exact Pl.str _ | exact Pl.nilSl | exact pl_nil | refine pl_cons ?_ ?_ | refine Pl.tuple _ ?_ | refine Pl.agg _ ?_ | refine Pl.func _ _ ?_ | assumption | refine Pl.iptr _ _ ?_ | exact pll_nil | refine pll_cons ?_ ?_ | refine Pl.sl _ _ ?_)); first | done | fail)) ?_ | refine V_D rfl ?_ | refine D_step rfl ?_ | refine D_nil' ?_ | refine D_gT' rfl ?_ | refine D_gU' rfl ?_ | refine D_gF' rfl rfl ?_ | refine D_gS rfl (fun _ => ?_) (fun _ => ?_)
  induction m with
  | zero =>
    intro b p l e st v t hm hbl hp ht hs hA h0 h4
    have : b = [] := List.length_eq_zero_iff.1 (by omega)
    subst this
    exact emp 0 p l e st v t (by simp at hbl; omega) hp (by rw [ht]; simp [valsR, Except.map]) hs hA h0 h4
  | succ m ih =>
    intro b p l e st v t hm hbl hp ht hs hA h0 h4
    cases b with
    | nil => exact emp 0 p l e st v t (by simp at hbl; omega) hp (by rw [ht]; simp [valsR, Except.map]) hs hA h0 h4
    | cons c r =>
      have hgt : decide (0 < ((c :: r).length : Int)) = true := decide_eq_true (by simp; try omega)
      have htk := run_Take3 hp (by omega)
      have plp := hp.pl
      cases htr : takeR (c :: r) with
      | err er =>
        rw [htr] at htk
        have hte : t = .error er := by rw [ht]; simp [valsR, htr, Except.map]
        by_cases he0 : er = 0
        · exact absurd (he0 ▸ htr) (take_err0 (c :: r))
        have hne : (!decide (er = 0)) = true := by simp [he0]
        refine V_less (.put 0 p (.put 4 _ .nil)) (less_put h0 (less_put h4 less_nil)) (V_unroll ?_)
        clear ih emp
        have hst0 : storeAt (st.new (.var [.int .i64 0, .int .i64 0, .str [], .nilSl])) (.ptr st.next 0) (.agg [.int .i64 0, .int .i64 0, .str [], .nilSl]) = some ((st.new (.var [.int .i64 0, .int .i64 0, .str [], .nilSl])).put st.next (.var [.int .i64 0, .int .i64 0, .str [], .nilSl])) := storeAt_whole St.get_new rfl
        repeat' first | refine O_lenB rfl hp ?_ | refine V_cHT hgt rfl rfl ?_ | refine V_cHT hne rfl rfl ?_ | refine O_callP rfl rfl (viewL_pl (by (repeat' (first | exact Pl.int _ _ | exact Pl.bool _ | exact Pl.str _ | exact Pl.nilSl | exact pl_nil | refine pl_cons ?_ ?_ | refine Pl.tuple _ ?_ | refine Pl.agg _ ?_ | refine Pl.func _ _ ?_ | assumption | refine Pl.iptr _ _ ?_ | exact pll_nil | refine pll_cons ?_ ?_ | refine Pl.sl _ _ ?_)); first | done | fail)) htk ?_ | refine O_storeV rfl rfl rfl rfl rfl hst0 ?_ | refine ret _ er _ _ _ _ hte rfl rfl rfl | refine O_step rfl ?_ | refine O_stepL rfl ?_ | refine V_O rfl ?_ | refine O_step rfl ?_ | refine O_nil' ?_ | refine V_cT rfl rfl ?_ | refine V_cF rfl rfl ?_ | refine V_cEq rfl rfl ?_ | refine V_cNe rfl rfl ?_ | refine V_cB rfl rfl (fun _ => ?_) (fun _ => ?_) | refine O_gT' rfl ?_ | refine O_gU' rfl ?_ | refine O_gF' rfl rfl ?_ | refine O_gEq rfl ?_ | refine O_gNe rfl ?_ | refine O_gS rfl (fun _ => ?_) (fun _ => ?_) | refine V_fin rfl rfl (Pl.view (by (repeat' (first | exact Pl.int _ _ | exact Pl.bool _ | exact Pl.str _ | exact Pl.nilSl | exact pl_nil | refine pl_cons ?_ ?_ | refine Pl.tuple _ ?_ | refine Pl.agg _ ?_ | refine Pl.func _ _ ?_ | assumption | refine Pl.iptr _ _ ?_ | exact pll_nil | refine pll_cons ?_ ?_ | refine Pl.sl _ _ ?_)); first | done | fail)) ?_ | refine V_finN rfl rfl (Pl.view (by (repeat' (first | exact Pl.int _ _ | exact Pl.bool _ | exact Pl.str _ | exact Pl.nilSl | exact pl_nil | refine pl_cons ?_ ?_ | refine Pl.tuple _ ?_ | refine Pl.agg _ ?_ | refine Pl.func _ _ ?_ | assumption | refine Pl.iptr _ _ ?_ | exact pll_nil | refine pll_cons ?_ ?_ | refine Pl.sl _ _ ?_)); first | done | fail)) ?_ | refine V_D rfl ?_ | refine D_step rfl ?_ | refine D_nil' ?_ | refine D_gT' rfl ?_ | refine D_gU' rfl ?_ | refine D_gF' rfl rfl ?_ | refine D_gS rfl (fun _ => ?_) (fun _ => ?_)
      | ok w n =>
        obtain ⟨hn1, hn2, k, i, s, rfl, hk, hi, hsl⟩ := take_ok htr (by omega)
        rw [htr] at htk
        have hA1 : AccT 4 ((st.new (.var [.int .i64 0, .int .i64 0, .str [], .nilSl])).put st.next (.var [.int .i64 k, .int .i64 i, .str s, .nilSl])) v (l.map cellsS) := by
          rcases hA with h | ⟨t, g, rfl, hg, hlt⟩
          · exact .inl h
          · exact .inr ⟨t, g, rfl, by rw [St.get_put_old (by omega), St.get_new_old hlt]; exact hg, by simp [St.new, St.put]; omega⟩
        have hst0 : storeAt (st.new (.var [.int .i64 0, .int .i64 0, .str [], .nilSl])) (.ptr st.next 0) (.agg [.int .i64 k, .int .i64 i, .str s, .nilSl]) = some ((st.new (.var [.int .i64 0, .int .i64 0, .str [], .nilSl])).put st.next (.var [.int .i64 k, .int .i64 i, .str s, .nilSl])) := storeAt_whole St.get_new rfl
        have hgS : ((st.new (.var [.int .i64 0, .int .i64 0, .str [], .nilSl])).put st.next (.var [.int .i64 k, .int .i64 i, .str s, .nilSl])).get st.next = some (.var [.int .i64 k, .int .i64 i, .str s, .nilSl]) := St.get_put
        generalize (st.new (.var [.int .i64 0, .int .i64 0, .str [], .nilSl])).put st.next (.var [.int .i64 k, .int .i64 i, .str s, .nilSl]) = S at hA1 hst0 hgS
        obtain ⟨v2, st2, k1, k2, k3⟩ := hA1.grow (bytes := 56) (src := [[.int .i64 k, .int .i64 i, .str s, .nilSl]]) (by simp) (by simp [roomLen]; try omega)
        have k2' : AccT 4 st2 v2 ((l ++ [Val.mk k i s []]).map cellsS) := by simpa [cellsS] using k2
        obtain ⟨v', hv', hb'⟩ := hp.lo st2.get (k := .i64) (m := (n : Int)) (by omega) (by omega)
        rw [Int.toNat_natCast] at hb'
        have hte : t = (valsR m ((c :: r).drop n)).map ((l ++ [Val.mk k i s []]) ++ ·) := by
          rw [ht]
          simp only [valsR, htr]
          cases valsR m ((c :: r).drop n) <;> simp [Except.map]
        have hdl : ((c :: r).drop n).length + n = (c :: r).length := by rw [List.length_drop]; omega
        have hne : (!decide ((0 : Int) = 0)) = false := rfl
        have fin : ∀ (fr : List Fr) (x : EX) (e' : EC), adv 200 fr x = ([.code (.loop lp_rambleref03_Values_0)], .normal) → e'.get 0 = some v' → e'.get 4 = some v2 → V T (PE (valsP t)) fr x e' st2 := fun fr x e' hadv g0 g4 => V_adv hadv
          (ih _ v' (l ++ [Val.mk k i s []]) e' st2 v2 t (by omega) (by simp at hbl hdl ⊢; omega) hb' hte (fun w hw => by
            rcases List.mem_append.1 hw with hw | hw
            · exact hs w hw
            · rw [List.mem_singleton.1 hw]; exact ⟨k, i, s, rfl, hk, hi, hsl⟩) k2' g0 g4)
        refine V_less (.put 0 p (.put 4 _ .nil)) (less_put h0 (less_put h4 less_nil)) (V_unroll ?_)
        clear ih emp out ret
        repeat' first | refine O_lenB rfl hp ?_ | refine V_cHT hgt rfl rfl ?_ | refine O_callP rfl rfl (viewL_pl (by (repeat' (first | exact Pl.int _ _ | exact Pl.bool _ | exact Pl.str _ | exact Pl.nilSl | exact pl_nil | refine pl_cons ?_ ?_ | refine Pl.tuple _ ?_ | refine Pl.agg _ ?_ | refine Pl.func _ _ ?_ | assumption | refine Pl.iptr _ _ ?_ | exact pll_nil | refine pll_cons ?_ ?_ | refine Pl.sl _ _ ?_)); first | done | fail)) htk ?_ | refine O_storeV rfl rfl rfl rfl rfl hst0 ?_ | refine O_loadP rfl hgS rfl ?_ | refine O_append (src := [[.int .i64 k, .int .i64 i, .str s, .nilSl]]) rfl rfl rfl rfl (by decide) (by decide) k1 ?_ | refine O_slice v' rfl rfl rfl rfl hv' ?_ | refine fin _ _ _ rfl rfl rfl | refine O_step rfl ?_ | refine O_stepL rfl ?_ | refine V_O rfl ?_ | refine O_step rfl ?_ | refine O_nil' ?_ | refine V_cT rfl rfl ?_ | refine V_cF rfl rfl ?_ | refine V_cEq rfl rfl ?_ | refine V_cNe rfl rfl ?_ | refine V_cB rfl rfl (fun _ => ?_) (fun _ => ?_) | refine O_gT' rfl ?_ | refine O_gU' rfl ?_ | refine O_gF' rfl rfl ?_ | refine O_gEq rfl ?_ | refine O_gNe rfl ?_ | refine O_gS rfl (fun _ => ?_) (fun _ => ?_) | refine V_fin rfl rfl (Pl.view (by (repeat' (first | exact Pl.int _ _ | exact Pl.bool _ | exact Pl.str _ | exact Pl.nilSl | exact pl_nil | refine pl_cons ?_ ?_ | refine Pl.tuple _ ?_ | refine Pl.agg _ ?_ | refine Pl.func _ _ ?_ | assumption | refine Pl.iptr _ _ ?_ | exact pll_nil | refine pll_cons ?_ ?_ | refine Pl.sl _ _ ?_)); first | done | fail)) ?_ | refine V_finN rfl rfl (Pl.view (by (repeat' (first | exact Pl.int _ _ | exact Pl.bool _ | exact Pl.str _ | exact Pl.nilSl | exact pl_nil | refine pl_cons ?_ ?_ | refine Pl.tuple _ ?_ | refine Pl.agg _ ?_ | refine Pl.func _ _ ?_ | assumption | refine Pl.iptr _ _ ?_ | exact pll_nil | refine pll_cons ?_ ?_ | refine Pl.sl _ _ ?_)); first | done | fail)) ?_ | refine V_D rfl ?_ | refine D_step rfl ?_ | refine D_nil' ?_ | refine D_gT' rfl ?_ | refine D_gU' rfl ?_ | refine D_gF' rfl rfl ?_ | refine D_gS rfl (fun _ => ?_) (fun _ => ?_)
theorem run_Values3 {p : PV} {b : List UInt8} (hp : BV p b) (hb : b.length ≤ 1048576) : (∃ l q, valsR b.length b = .ok l ∧ LC l q ∧ T.R (.call n_rambleref03_Values [p] (.tuple [q, .int .i64 0]))) ∨ ∃ err, valsR b.length b = .error err ∧ T.R (.call n_rambleref03_Values [p] (.tuple [.nilSl, .int .i64 err])) := by
  have hl := fun e h0 h4 => vals3_loop b.length b p [] e emptySt .nilSl (valsR b.length b) (Nat.le_refl _) (by simpa using hb) hp (by cases valsR b.length b <;> rfl) (fun w hw => by cases hw) (.inl ⟨rfl, rfl⟩) h0 h4
  have key : ∃ r, T.R (.call n_rambleref03_Values [p] r) ∧ ((∃ l q, valsR b.length b = .ok l ∧ LC l q ∧ r = .tuple [q, .int .i64 0]) ∨ ∃ err, valsR b.length b = .error err ∧ r = .tuple [.nilSl, .int .i64 err]) := by
    refine call_VQ rfl rfl ?_
    repeat' first | refine V_cutA rfl (hl _ rfl rfl) ?_ | refine V_O rfl ?_ | refine O_step rfl ?_ | refine O_nil' ?_ | refine V_cT rfl rfl ?_ | refine V_cF rfl rfl ?_ | refine V_cEq rfl rfl ?_ | refine V_cNe rfl rfl ?_ | refine V_cB rfl rfl (fun _ => ?_) (fun _ => ?_) | refine O_gT' rfl ?_ | refine O_gU' rfl ?_ | refine O_gF' rfl rfl ?_ | refine O_gEq rfl ?_ | refine O_gNe rfl ?_ | refine O_gS rfl (fun _ => ?_) (fun _ => ?_) | refine V_fin rfl rfl (Pl.view (by (repeat' (first | exact Pl.int _ _ | exact Pl.bool _ | exact Pl.str _ | exact Pl.nilSl | exact pl_nil | refine pl_cons ?_ ?_ | refine Pl.tuple _ ?_ | refine Pl.agg _ ?_ | refine Pl.func _ _ ?_ | assumption | refine Pl.iptr _ _ ?_ | exact pll_nil | refine pll_cons ?_ ?_ | refine Pl.sl _ _ ?_)); first | done | fail)) ?_ | refine V_finN rfl rfl (Pl.view (by (repeat' (first | exact Pl.int _ _ | exact Pl.bool _ | exact Pl.str _ | exact Pl.nilSl | exact pl_nil | refine pl_cons ?_ ?_ | refine Pl.tuple _ ?_ | refine Pl.agg _ ?_ | refine Pl.func _ _ ?_ | assumption | refine Pl.iptr _ _ ?_ | exact pll_nil | refine pll_cons ?_ ?_ | refine Pl.sl _ _ ?_)); first | done | fail)) ?_ | refine V_D rfl ?_ | refine D_step rfl ?_ | refine D_nil' ?_ | refine D_gT' rfl ?_ | refine D_gU' rfl ?_ | refine D_gF' rfl rfl ?_ | refine D_gS rfl (fun _ => ?_) (fun _ => ?_)
    rintro x e' st' (⟨rfl, v', l, ht, hs, hll, rfl, hA⟩ | ⟨err, rfl, ht, rfl⟩)
    · rcases hA with ⟨rfl, h⟩ | ⟨t, g, rfl, hg, hlt⟩
      · have : l = [] := by simpa using h
        subst this
        repeat' first | refine V_O rfl ?_ | refine O_step rfl ?_ | refine O_nil' ?_ | refine V_cT rfl rfl ?_ | refine V_cF rfl rfl ?_ | refine V_cEq rfl rfl ?_ | refine V_cNe rfl rfl ?_ | refine V_cB rfl rfl (fun _ => ?_) (fun _ => ?_) | refine O_gT' rfl ?_ | refine O_gU' rfl ?_ | refine O_gF' rfl rfl ?_ | refine O_gEq rfl ?_ | refine O_gNe rfl ?_ | refine O_gS rfl (fun _ => ?_) (fun _ => ?_) | refine V_fin rfl rfl (Pl.view (by (repeat' (first | exact Pl.int _ _ | exact Pl.bool _ | exact Pl.str _ | exact Pl.nilSl | exact pl_nil | refine pl_cons ?_ ?_ | refine Pl.tuple _ ?_ | refine Pl.agg _ ?_ | refine Pl.func _ _ ?_ | assumption | refine Pl.iptr _ _ ?_ | exact pll_nil | refine pll_cons ?_ ?_ | refine Pl.sl _ _ ?_)); first | done | fail)) ?_ | refine V_finN rfl rfl (Pl.view (by (repeat' (first | exact Pl.int _ _ | exact Pl.bool _ | exact Pl.str _ | exact Pl.nilSl | exact pl_nil | refine pl_cons ?_ ?_ | refine Pl.tuple _ ?_ | refine Pl.agg _ ?_ | refine Pl.func _ _ ?_ | assumption | refine Pl.iptr _ _ ?_ | exact pll_nil | refine pll_cons ?_ ?_ | refine Pl.sl _ _ ?_)); first | done | fail)) ?_ | refine V_D rfl ?_ | refine D_step rfl ?_ | refine D_nil' ?_ | refine D_gT' rfl ?_ | refine D_gU' rfl ?_ | refine D_gF' rfl rfl ?_ | refine D_gS rfl (fun _ => ?_) (fun _ => ?_)
        exact .inl ⟨[], .nilSl, ht, .inl ⟨rfl, rfl⟩, rfl⟩
      · repeat' first | refine V_fin (r := .tuple [.sl (l.map cellsS) false, .int .i64 0]) rfl rfl (view_tuple (viewL_cons (view_osl0 hg (.inl rfl) rfl (cells_pl l)) (viewL_cons (.int _ _) viewL_nil))) ?_ | refine V_O rfl ?_ | refine O_step rfl ?_ | refine O_nil' ?_ | refine V_cT rfl rfl ?_ | refine V_cF rfl rfl ?_ | refine V_cEq rfl rfl ?_ | refine V_cNe rfl rfl ?_ | refine V_cB rfl rfl (fun _ => ?_) (fun _ => ?_) | refine O_gT' rfl ?_ | refine O_gU' rfl ?_ | refine O_gF' rfl rfl ?_ | refine O_gEq rfl ?_ | refine O_gNe rfl ?_ | refine O_gS rfl (fun _ => ?_) (fun _ => ?_) | refine V_fin rfl rfl (Pl.view (by (repeat' (first | exact Pl.int _ _ | exact Pl.bool _ | exact Pl.str _ | exact Pl.nilSl | exact pl_nil | refine pl_cons ?_ ?_ | refine Pl.tuple _ ?_ | refine Pl.agg _ ?_ | refine Pl.func _ _ ?_ | assumption | refine Pl.iptr _ _ ?_ | exact pll_nil | refine pll_cons ?_ ?_ | refine Pl.sl _ _ ?_)); first | done | fail)) ?_ | refine V_finN rfl rfl (Pl.view (by (repeat' (first | exact Pl.int _ _ | exact Pl.bool _ | exact Pl.str _ | exact Pl.nilSl | exact pl_nil | refine pl_cons ?_ ?_ | refine Pl.tuple _ ?_ | refine Pl.agg _ ?_ | refine Pl.func _ _ ?_ | assumption | refine Pl.iptr _ _ ?_ | exact pll_nil | refine pll_cons ?_ ?_ | refine Pl.sl _ _ ?_)); first | done | fail)) ?_ | refine V_D rfl ?_ | refine D_step rfl ?_ | refine D_nil' ?_ | refine D_gT' rfl ?_ | refine D_gU' rfl ?_ | refine D_gF' rfl rfl ?_ | refine D_gS rfl (fun _ => ?_) (fun _ => ?_)
        exact .inl ⟨l, _, ht, lc_cells l hs hll false, rfl⟩
    · exact V_fin (r := .tuple [.nilSl, .int .i64 err]) rfl rfl (Pl.view (by (repeat' (first | exact Pl.int _ _ | exact Pl.bool _ | exact Pl.str _ | exact Pl.nilSl | exact pl_nil | refine pl_cons ?_ ?_ | refine Pl.tuple _ ?_ | refine Pl.agg _ ?_ | refine Pl.func _ _ ?_ | assumption | refine Pl.iptr _ _ ?_ | exact pll_nil | refine pll_cons ?_ ?_ | refine Pl.sl _ _ ?_)); first | done | fail)) (.inr ⟨err, ht, rfl⟩)
  obtain ⟨r, h1, ⟨l, q, h2, h3, rfl⟩ | ⟨err, h2, rfl⟩⟩ := key
  · exact .inl ⟨l, q, h2, h3, h1⟩
  · exact .inr ⟨err, h2, h1⟩
end Go.Proofs.YtfdebgebnkbagaaDoor


/- codec.rest. -/
import Derived.Test.YtfdebgebnkbagaaDoorReadA
set_option linter.unusedVariables false
set_option linter.unusedSimpArgs false
namespace Go.Proofs.YtfdebgebnkbagaaDoor
open Go Go.AM Go.RowKit
theorem LS.res {k : Int} {st : St} {v : PV} {l : List Val} {xs : List (List PV)} (h : LS k st v xs) (hR : RowOf l xs) (hx : xs.length ≤ 512) : ∃ q, LC l q ∧ View true st.get v q ∧ Pl q := by
  rcases h.1 with ⟨rfl, h0⟩ | ⟨t, g, rfl, hg, _⟩
  · have hl : l = [] := by
      have := hR.1
      rw [h0] at this
      exact List.length_eq_zero_iff.1 this.symm
    exact ⟨.nilSl, .inl ⟨rfl, hl⟩, .nilSl, .nilSl⟩
  · have hLC : LC l (.sl xs false) := .inr ⟨xs, false, rfl, by rw [← hR.1]; omega, hR.1, hR.2⟩
    refine ⟨.sl xs false, hLC, view_osl0 hg (.inl rfl) rfl (fun cs hcs c hc => ?_), hLC.pl⟩
    obtain ⟨j, hj⟩ := List.getElem?_of_mem hcs
    have hlt : j < l.length := by have := (List.getElem?_eq_some_iff.1 hj).1; rw [hR.1] at this; exact this
    exact (hR.2 j l[j] cs (List.getElem?_eq_getElem hlt) hj).pl c hc
theorem view_agg {live : Bool} {look : Nat → Option Tok} {xs ys : List PV} (h : ViewL live look xs ys) : View live look (.agg xs) (.agg ys) := .agg _ _ h.1 h.2
theorem all_one4 {a b c v : PV} (ha : PV.one a = true) (hb : PV.one b = true) (hc : PV.one c = true) (hv : PV.one v = true) : (PV.agg [a, b, c, v]).cells.all PV.one = true := by
  show [a, b, c, v].all PV.one = true
  simp [ha, hb, hc, hv]
set_option maxHeartbeats 8000000 in
theorem run_rest (k d : Int) (hd : 0 ≤ d ∧ d ≤ 100) (u : Nat) (hu : u < 18446744073709551616) (n : Nat) (p : PV) (b0 : List UInt8) (hp : BV p b0) (hb0 : b0.length ≤ 1073741824) (hn : n ≤ b0.length) (rd : List UInt8 → TR) (hle : RdLe rd) (hrd : ∀ (q : PV) (b : List UInt8), BV q b → b.length ≤ 1073741824 → RdOk n_codec_read [q, .int .i64 (d + 1)] (rd b))
    (kn : Nat) (hkn : k = (kn : Int)) (hk : kn = 1 ∨ kn = 2 ∨ kn = 4 ∨ kn = 5 ∨ kn = 6 ∨ kn = 7) : RdOk n_codec_rest [.agg [.int .i64 k, .int .i64 0, .str [], .nilSl], .int .u64 u, p, .int .i64 n, .int .i64 d] (restV rd kn u (b0.drop n) n) := by
  have plp := hp.pl
  have hdl : (b0.drop n).length = b0.length - n := List.length_drop ..
  have hconv : PV.int .i64 (IntKind.i64.wrap (u : Int)) = PV.int .i64 (sgnN u) := int_is (conv_i64 hu)
  rcases hk with rfl | rfl | h4567
  · have hk1 : k = 1 := by omega
    subst hk1
    have hz := run_Zag hu
    refine .inr ⟨.mk 1 (zagN u) [] [], n, _, by simp [restV], .nil _ _ _ (by simp [I64]) (zag_i64 hu) (by simp), ?_⟩
    refine call_V rfl rfl ?_
    repeat' first | refine O_cA rfl rfl hz ?_ | refine O_step rfl ?_ | refine O_stepL rfl ?_ | refine V_O rfl ?_ | refine O_step rfl ?_ | refine O_nil' ?_ | refine V_cT rfl rfl ?_ | refine V_cF rfl rfl ?_ | refine V_cEq rfl rfl ?_ | refine V_cNe rfl rfl ?_ | refine V_cB rfl rfl (fun _ => ?_) (fun _ => ?_) | refine O_gT' rfl ?_ | refine O_gU' rfl ?_ | refine O_gF' rfl rfl ?_ | refine O_gEq rfl ?_ | refine O_gNe rfl ?_ | refine O_gS rfl (fun _ => ?_) (fun _ => ?_) | refine V_fA rfl rfl ?_ | refine V_fAN rfl rfl ?_ | refine V_D rfl ?_ | refine D_step rfl ?_ | refine D_nil' ?_ | refine D_gT' rfl ?_ | refine D_gU' rfl ?_ | refine D_gF' rfl rfl ?_ | refine D_gS rfl (fun _ => ?_) (fun _ => ?_)
    rfl
  · have hk1 : k = 2 := by omega
    subst hk1
    by_cases h1 : 128 < u
    · have h1' : (128 : Int) < (u : Int) := by omega
      refine .inl ⟨30, by simp [restV, h1], ?_⟩
      refine call_V rfl rfl ?_
      repeat' first | refine O_is (dec_is h1') rfl ?_ | refine O_cA rfl rfl (run_none _) ?_ | refine O_step rfl ?_ | refine O_stepL rfl ?_ | refine V_O rfl ?_ | refine O_step rfl ?_ | refine O_nil' ?_ | refine V_cT rfl rfl ?_ | refine V_cF rfl rfl ?_ | refine V_cEq rfl rfl ?_ | refine V_cNe rfl rfl ?_ | refine V_cB rfl rfl (fun _ => ?_) (fun _ => ?_) | refine O_gT' rfl ?_ | refine O_gU' rfl ?_ | refine O_gF' rfl rfl ?_ | refine O_gEq rfl ?_ | refine O_gNe rfl ?_ | refine O_gS rfl (fun _ => ?_) (fun _ => ?_) | refine V_fA rfl rfl ?_ | refine V_fAN rfl rfl ?_ | refine V_D rfl ?_ | refine D_step rfl ?_ | refine D_nil' ?_ | refine D_gT' rfl ?_ | refine D_gU' rfl ?_ | refine D_gF' rfl rfl ?_ | refine D_gS rfl (fun _ => ?_) (fun _ => ?_)
      rfl
    · have h1' : ¬ (128 : Int) < (u : Int) := by omega
      have hcu : PV.int .i64 (IntKind.i64.wrap (u : Int)) = PV.int .i64 (u : Int) := int_is (by rw [wrap_i64]; omega)
      have hsub : PV.int .i64 (IntKind.i64.wrap ((b0.length : Int) - (n : Int))) = PV.int .i64 ((b0.length : Int) - (n : Int)) := int_is (by rw [wrap_i64]; omega)
      by_cases h2 : b0.length - n < u
      · have h2' : (b0.length : Int) - (n : Int) < (u : Int) := by omega
        refine .inl ⟨11, by simp [restV, h1, hdl, h2], ?_⟩
        refine call_V rfl rfl ?_
        repeat' first | refine O_is (dec_not h1') rfl ?_ | refine O_is hcu rfl ?_ | refine O_lenB rfl hp ?_ | refine O_is hsub rfl ?_ | refine O_is (dec_is h2') rfl ?_ | refine O_cA rfl rfl (run_none _) ?_ | refine O_step rfl ?_ | refine O_stepL rfl ?_ | refine V_O rfl ?_ | refine O_step rfl ?_ | refine O_nil' ?_ | refine V_cT rfl rfl ?_ | refine V_cF rfl rfl ?_ | refine V_cEq rfl rfl ?_ | refine V_cNe rfl rfl ?_ | refine V_cB rfl rfl (fun _ => ?_) (fun _ => ?_) | refine O_gT' rfl ?_ | refine O_gU' rfl ?_ | refine O_gF' rfl rfl ?_ | refine O_gEq rfl ?_ | refine O_gNe rfl ?_ | refine O_gS rfl (fun _ => ?_) (fun _ => ?_) | refine V_fA rfl rfl ?_ | refine V_fAN rfl rfl ?_ | refine V_D rfl ?_ | refine D_step rfl ?_ | refine D_nil' ?_ | refine D_gT' rfl ?_ | refine D_gU' rfl ?_ | refine D_gF' rfl rfl ?_ | refine D_gS rfl (fun _ => ?_) (fun _ => ?_)
        rfl
      · have h2' : ¬ (b0.length : Int) - (n : Int) < (u : Int) := by omega
        have hadd : PV.int .i64 (IntKind.i64.wrap ((n : Int) + (u : Int))) = PV.int .i64 ((n + u : Nat) : Int) := int_is (by rw [wrap_i64]; omega)
        let S : St := (emptySt.new (.var [.int .i64 2, .int .i64 0, .str [], .nilSl])).new (.var [.int .i64 0, .int .i64 0, .str [], .nilSl])
        obtain ⟨v2, hv2, hb2⟩ := hp.lohi S.get (k := .i64) (k' := .i64) (m := (n : Int)) (m' := ((n + u : Nat) : Int)) (by omega) (by omega) (by omega)
        have hcut : (b0.drop (n : Int).toNat).take (((n + u : Nat) : Int).toNat - (n : Int).toNat) = (b0.drop n).take u := by
          rw [Int.toNat_natCast, Int.toNat_natCast, Nat.add_sub_cancel_left]
        rw [hcut] at hb2
        have hel : elemsOf S.get v2 = some (byteCells ((b0.drop n).take u)) := RB.elems (hb2.rb S)
        refine .inr ⟨.mk 2 0 ((b0.drop n).take u) [], n + u, _, by simp [restV, h1, hdl, h2], .nil _ _ _ (by simp [I64]) (by simp [I64]) (by rw [List.length_take]; omega), ?_⟩
        refine call_V rfl rfl ?_
        repeat' first | refine O_is (dec_not h1') rfl ?_ | refine O_is hadd rfl ?_ | refine O_is hcu rfl ?_ | refine O_lenB rfl hp ?_ | refine O_is hsub rfl ?_ | refine O_is (dec_not h2') rfl ?_ | refine O_slice v2 rfl rfl rfl rfl hv2 ?_ | refine O_toStrA rfl hel ?_ | refine O_cA rfl rfl (run_none _) ?_ | refine O_step rfl ?_ | refine O_stepL rfl ?_ | refine V_O rfl ?_ | refine O_step rfl ?_ | refine O_nil' ?_ | refine V_cT rfl rfl ?_ | refine V_cF rfl rfl ?_ | refine V_cEq rfl rfl ?_ | refine V_cNe rfl rfl ?_ | refine V_cB rfl rfl (fun _ => ?_) (fun _ => ?_) | refine O_gT' rfl ?_ | refine O_gU' rfl ?_ | refine O_gF' rfl rfl ?_ | refine O_gEq rfl ?_ | refine O_gNe rfl ?_ | refine O_gS rfl (fun _ => ?_) (fun _ => ?_) | refine V_fA rfl rfl ?_ | refine V_fAN rfl rfl ?_ | refine V_D rfl ?_ | refine D_step rfl ?_ | refine D_nil' ?_ | refine D_gT' rfl ?_ | refine D_gU' rfl ?_ | refine D_gF' rfl rfl ?_ | refine D_gS rfl (fun _ => ?_) (fun _ => ?_)
        rfl
  · by_cases h67 : kn = 6 ∨ kn = 7
    · have hr : restV rd kn u (b0.drop n) n = .ok (.mk k (sgnN u) [] []) n := by
        unfold restV
        rw [if_neg (by omega), if_pos h67, hkn]
      rw [hr]
      refine .inr ⟨_, _, _, rfl, .nil _ _ _ (by unfold I64; omega) (sgn_i64 hu) (by simp), ?_⟩
      rcases h67 with rfl | rfl
      · have hk1 : k = 6 := by omega
        subst hk1
        refine call_V rfl rfl ?_
        repeat' first | refine O_is hconv rfl ?_ | refine O_step rfl ?_ | refine O_stepL rfl ?_ | refine V_O rfl ?_ | refine O_step rfl ?_ | refine O_nil' ?_ | refine V_cT rfl rfl ?_ | refine V_cF rfl rfl ?_ | refine V_cEq rfl rfl ?_ | refine V_cNe rfl rfl ?_ | refine V_cB rfl rfl (fun _ => ?_) (fun _ => ?_) | refine O_gT' rfl ?_ | refine O_gU' rfl ?_ | refine O_gF' rfl rfl ?_ | refine O_gEq rfl ?_ | refine O_gNe rfl ?_ | refine O_gS rfl (fun _ => ?_) (fun _ => ?_) | refine V_fA rfl rfl ?_ | refine V_fAN rfl rfl ?_ | refine V_D rfl ?_ | refine D_step rfl ?_ | refine D_nil' ?_ | refine D_gT' rfl ?_ | refine D_gU' rfl ?_ | refine D_gF' rfl rfl ?_ | refine D_gS rfl (fun _ => ?_) (fun _ => ?_)
        rfl
      · have hk1 : k = 7 := by omega
        subst hk1
        refine call_V rfl rfl ?_
        repeat' first | refine O_is hconv rfl ?_ | refine O_step rfl ?_ | refine O_stepL rfl ?_ | refine V_O rfl ?_ | refine O_step rfl ?_ | refine O_nil' ?_ | refine V_cT rfl rfl ?_ | refine V_cF rfl rfl ?_ | refine V_cEq rfl rfl ?_ | refine V_cNe rfl rfl ?_ | refine V_cB rfl rfl (fun _ => ?_) (fun _ => ?_) | refine O_gT' rfl ?_ | refine O_gU' rfl ?_ | refine O_gF' rfl rfl ?_ | refine O_gEq rfl ?_ | refine O_gNe rfl ?_ | refine O_gS rfl (fun _ => ?_) (fun _ => ?_) | refine V_fA rfl rfl ?_ | refine V_fAN rfl rfl ?_ | refine V_D rfl ?_ | refine D_step rfl ?_ | refine D_nil' ?_ | refine D_gT' rfl ?_ | refine D_gU' rfl ?_ | refine D_gF' rfl rfl ?_ | refine D_gS rfl (fun _ => ?_) (fun _ => ?_)
        rfl
    · have h45 : kn = 4 ∨ kn = 5 := by omega
      by_cases hbig : 512 < u ∨ (kn = 4 ∧ 256 < u)
      · have hr : restV rd kn u (b0.drop n) n = .err 30 := by
          unfold restV
          rw [if_neg (by omega), if_neg (by omega), if_neg (by omega), if_pos hbig]
        rw [hr]
        refine .inl ⟨30, rfl, ?_⟩
        by_cases h512 : 512 < u
        · have h5' : (512 : Int) < (u : Int) := by omega
          rcases h45 with rfl | rfl
          · have hk1 : k = 4 := by omega
            subst hk1
            refine call_V rfl rfl ?_
            repeat' first | refine O_is (dec_is h5') rfl ?_ | refine O_cA rfl rfl (run_none _) ?_ | refine O_step rfl ?_ | refine O_stepL rfl ?_ | refine V_O rfl ?_ | refine O_step rfl ?_ | refine O_nil' ?_ | refine V_cT rfl rfl ?_ | refine V_cF rfl rfl ?_ | refine V_cEq rfl rfl ?_ | refine V_cNe rfl rfl ?_ | refine V_cB rfl rfl (fun _ => ?_) (fun _ => ?_) | refine O_gT' rfl ?_ | refine O_gU' rfl ?_ | refine O_gF' rfl rfl ?_ | refine O_gEq rfl ?_ | refine O_gNe rfl ?_ | refine O_gS rfl (fun _ => ?_) (fun _ => ?_) | refine V_fA rfl rfl ?_ | refine V_fAN rfl rfl ?_ | refine V_D rfl ?_ | refine D_step rfl ?_ | refine D_nil' ?_ | refine D_gT' rfl ?_ | refine D_gU' rfl ?_ | refine D_gF' rfl rfl ?_ | refine D_gS rfl (fun _ => ?_) (fun _ => ?_)
            rfl
          · have hk1 : k = 5 := by omega
            subst hk1
            refine call_V rfl rfl ?_
            repeat' first | refine O_is (dec_is h5') rfl ?_ | refine O_cA rfl rfl (run_none _) ?_ | refine O_step rfl ?_ | refine O_stepL rfl ?_ | refine V_O rfl ?_ | refine O_step rfl ?_ | refine O_nil' ?_ | refine V_cT rfl rfl ?_ | refine V_cF rfl rfl ?_ | refine V_cEq rfl rfl ?_ | refine V_cNe rfl rfl ?_ | refine V_cB rfl rfl (fun _ => ?_) (fun _ => ?_) | refine O_gT' rfl ?_ | refine O_gU' rfl ?_ | refine O_gF' rfl rfl ?_ | refine O_gEq rfl ?_ | refine O_gNe rfl ?_ | refine O_gS rfl (fun _ => ?_) (fun _ => ?_) | refine V_fA rfl rfl ?_ | refine V_fAN rfl rfl ?_ | refine V_D rfl ?_ | refine D_step rfl ?_ | refine D_nil' ?_ | refine D_gT' rfl ?_ | refine D_gU' rfl ?_ | refine D_gF' rfl rfl ?_ | refine D_gS rfl (fun _ => ?_) (fun _ => ?_)
            rfl
        · have h5' : ¬ (512 : Int) < (u : Int) := by omega
          have h2' : (256 : Int) < (u : Int) := by omega
          have hk1 : k = 4 := by omega
          subst hk1
          refine call_V rfl rfl ?_
          repeat' first | refine O_is (dec_not h5') rfl ?_ | refine O_is (dec_is h2') rfl ?_ | refine O_cA rfl rfl (run_none _) ?_ | refine O_step rfl ?_ | refine O_stepL rfl ?_ | refine V_O rfl ?_ | refine O_step rfl ?_ | refine O_nil' ?_ | refine V_cT rfl rfl ?_ | refine V_cF rfl rfl ?_ | refine V_cEq rfl rfl ?_ | refine V_cNe rfl rfl ?_ | refine V_cB rfl rfl (fun _ => ?_) (fun _ => ?_) | refine O_gT' rfl ?_ | refine O_gU' rfl ?_ | refine O_gF' rfl rfl ?_ | refine O_gEq rfl ?_ | refine O_gNe rfl ?_ | refine O_gS rfl (fun _ => ?_) (fun _ => ?_) | refine V_fA rfl rfl ?_ | refine V_fAN rfl rfl ?_ | refine V_D rfl ?_ | refine D_step rfl ?_ | refine D_nil' ?_ | refine D_gT' rfl ?_ | refine D_gU' rfl ?_ | refine D_gF' rfl rfl ?_ | refine D_gS rfl (fun _ => ?_) (fun _ => ?_)
          rfl
      · have hr : restV rd kn u (b0.drop n) n = match readVs rd u (b0.drop n) n with
            | .error e => .err e
            | .ok r => .ok (.mk (kn : Int) 0 [] r.1) r.2 := by
          unfold restV
          rw [if_neg (by omega), if_neg (by omega), if_neg (by omega), if_neg hbig]
          cases readVs rd u (b0.drop n) n <;> rfl
        have h5' : ¬ (512 : Int) < (u : Int) := by omega
        have hloop := fun e h2 h3 h4 h5 h10 h81 h82 => rest_loop k d hd u (by omega) p b0 hp hb0 rd hle hrd u 0 n [] [] e ((emptySt.new (.var [.int .i64 k, .int .i64 0, .str [], .nilSl])).new (.var [.int .i64 0, .int .i64 0, .str [], .nilSl])) .nilSl (by omega) rfl hn ⟨rfl, fun j v cs h => by simp at h⟩ ⟨.inl ⟨rfl, rfl⟩, by show 2 ≤ 2; omega, rfl, ⟨_, _, _, _, rfl⟩, by simp [tokOf], by simp [tokOf]⟩ h2 h3 h4 h5 h10 h81 h82
        have key : ∃ r, T.R (.call n_codec_rest [.agg [.int .i64 k, .int .i64 0, .str [], .nilSl], .int .u64 u, p, .int .i64 n, .int .i64 d] r) ∧ ((∃ e, restV rd kn u (b0.drop n) n = .err e ∧ r = .tuple [.agg [.int .i64 0, .int .i64 0, .str [], .nilSl], .int .i64 0, .int .i64 e]) ∨ ∃ v m cs, restV rd kn u (b0.drop n) n = .ok v m ∧ VC v cs ∧ r = .tuple [.agg cs, .int .i64 m, .int .i64 0]) := by
          have k4 : k = 4 → ¬ (256 : Int) < (u : Int) := fun h => by omega
          have hI : I64 k := by unfold I64; omega
          rcases h45 with rfl | rfl
          · have hk1 : k = 4 := by omega
            subst hk1
            have h256 := k4 rfl
            clear k4
            refine call_VQ rfl rfl ?_
            repeat' first | refine O_is (dec_not h5') rfl ?_ | refine O_is (dec_not h256) rfl ?_ | refine V_cutA rfl (hloop _ rfl rfl rfl rfl rfl rfl rfl) ?_ | refine O_step rfl ?_ | refine O_stepL rfl ?_ | refine V_O rfl ?_ | refine O_step rfl ?_ | refine O_nil' ?_ | refine V_cT rfl rfl ?_ | refine V_cF rfl rfl ?_ | refine V_cEq rfl rfl ?_ | refine V_cNe rfl rfl ?_ | refine V_cB rfl rfl (fun _ => ?_) (fun _ => ?_) | refine O_gT' rfl ?_ | refine O_gU' rfl ?_ | refine O_gF' rfl rfl ?_ | refine O_gEq rfl ?_ | refine O_gNe rfl ?_ | refine O_gS rfl (fun _ => ?_) (fun _ => ?_) | refine V_fA rfl rfl ?_ | refine V_fAN rfl rfl ?_ | refine V_D rfl ?_ | refine D_step rfl ?_ | refine D_nil' ?_ | refine D_gT' rfl ?_ | refine D_gU' rfl ?_ | refine D_gF' rfl rfl ?_ | refine D_gS rfl (fun _ => ?_) (fun _ => ?_)
            rintro x e' st' (⟨rfl, l', n', v, xs, ht, hL, hR, hxl, rfl⟩ | ⟨rfl, err, ht, hg, rfl⟩)
            · obtain ⟨q, hq, hvw, plq⟩ := LS.res hL hR hxl
              obtain ⟨hA, _, hg0, ⟨a, b, c, dd, hg1⟩, t0, t1⟩ := hL
              have hone := (AccT.cells hA).2
              obtain ⟨q2, hq2, hvw2, plq2⟩ : ∃ q, LC l' q ∧ View true (st'.put 1 (.var [.int .i64 4, .int .i64 0, .str [], v])).get v q ∧ Pl q := by
                have hL' : LS 4 (st'.put 1 (.var [.int .i64 4, .int .i64 0, .str [], v])) v xs := ⟨AccT.put hA t1 _, by simp [St.put]; omega, by rw [St.get_put_old (by omega)]; exact hg0, ⟨_, _, _, _, St.get_put⟩, t0, t1⟩
                exact LS.res hL' hR hxl
              repeat' first | refine O_loadP rfl hg0 rfl ?_ | refine O_storeV rfl rfl (all_one4 rfl rfl rfl hone) rfl rfl (storeAt_whole hg1 rfl) ?_ | refine O_step rfl ?_ | refine V_O rfl ?_ | refine O_step rfl ?_ | refine O_nil' ?_ | refine V_cT rfl rfl ?_ | refine V_cF rfl rfl ?_ | refine V_cEq rfl rfl ?_ | refine V_cNe rfl rfl ?_ | refine V_cB rfl rfl (fun _ => ?_) (fun _ => ?_) | refine O_gT' rfl ?_ | refine O_gU' rfl ?_ | refine O_gF' rfl rfl ?_ | refine O_gEq rfl ?_ | refine O_gNe rfl ?_ | refine O_gS rfl (fun _ => ?_) (fun _ => ?_) | refine V_fA rfl rfl ?_ | refine V_fAN rfl rfl ?_ | refine V_D rfl ?_ | refine D_step rfl ?_ | refine D_nil' ?_ | refine D_gT' rfl ?_ | refine D_gU' rfl ?_ | refine D_gF' rfl rfl ?_ | refine D_gS rfl (fun _ => ?_) (fun _ => ?_)
              refine V_fin (r := .tuple [.agg [.int .i64 4, .int .i64 0, .str [], q2], .int .i64 (n' : Nat), .int .i64 0]) rfl (resG_cG rfl St.get_put rfl rfl rfl) (view_tuple (viewL_cons (view_agg (viewL_cons (.int _ _) (viewL_cons (.int _ _) (viewL_cons (.str _) (viewL_cons hvw2 viewL_nil))))) (viewL_cons (.int _ _) (viewL_cons (.int _ _) viewL_nil)))) ?_
              exact .inr ⟨.mk 4 0 [] l', n', _, by rw [hr, ht]; rfl, hq2.vc hI (by simp [I64]) (by simp), rfl⟩
            · refine V_fin (r := .tuple [.agg [.int .i64 0, .int .i64 0, .str [], .nilSl], .int .i64 0, .int .i64 err]) rfl (resG_cG rfl hg rfl rfl rfl) (Pl.view (by (repeat' (first | exact Pl.int _ _ | exact Pl.bool _ | exact Pl.str _ | exact Pl.nilSl | exact pl_nil | refine pl_cons ?_ ?_ | refine Pl.tuple _ ?_ | refine Pl.agg _ ?_ | refine Pl.func _ _ ?_ | assumption | refine Pl.iptr _ _ ?_ | exact pll_nil | refine pll_cons ?_ ?_ | refine Pl.sl _ _ ?_)); first | done | fail)) ?_
              exact .inl ⟨err, by rw [hr, ht], rfl⟩
          · have hk1 : k = 5 := by omega
            subst hk1
            clear k4
            refine call_VQ rfl rfl ?_
            repeat' first | refine O_is (dec_not h5') rfl ?_ | refine V_cutA rfl (hloop _ rfl rfl rfl rfl rfl rfl rfl) ?_ | refine O_step rfl ?_ | refine O_stepL rfl ?_ | refine V_O rfl ?_ | refine O_step rfl ?_ | refine O_nil' ?_ | refine V_cT rfl rfl ?_ | refine V_cF rfl rfl ?_ | refine V_cEq rfl rfl ?_ | refine V_cNe rfl rfl ?_ | refine V_cB rfl rfl (fun _ => ?_) (fun _ => ?_) | refine O_gT' rfl ?_ | refine O_gU' rfl ?_ | refine O_gF' rfl rfl ?_ | refine O_gEq rfl ?_ | refine O_gNe rfl ?_ | refine O_gS rfl (fun _ => ?_) (fun _ => ?_) | refine V_fA rfl rfl ?_ | refine V_fAN rfl rfl ?_ | refine V_D rfl ?_ | refine D_step rfl ?_ | refine D_nil' ?_ | refine D_gT' rfl ?_ | refine D_gU' rfl ?_ | refine D_gF' rfl rfl ?_ | refine D_gS rfl (fun _ => ?_) (fun _ => ?_)
            rintro x e' st' (⟨rfl, l', n', v, xs, ht, hL, hR, hxl, rfl⟩ | ⟨rfl, err, ht, hg, rfl⟩)
            · obtain ⟨q, hq, hvw, plq⟩ := LS.res hL hR hxl
              obtain ⟨hA, _, hg0, ⟨a, b, c, dd, hg1⟩, t0, t1⟩ := hL
              have hone := (AccT.cells hA).2
              obtain ⟨q2, hq2, hvw2, plq2⟩ : ∃ q, LC l' q ∧ View true (st'.put 1 (.var [.int .i64 5, .int .i64 0, .str [], v])).get v q ∧ Pl q := by
                have hL' : LS 5 (st'.put 1 (.var [.int .i64 5, .int .i64 0, .str [], v])) v xs := ⟨AccT.put hA t1 _, by simp [St.put]; omega, by rw [St.get_put_old (by omega)]; exact hg0, ⟨_, _, _, _, St.get_put⟩, t0, t1⟩
                exact LS.res hL' hR hxl
              repeat' first | refine O_loadP rfl hg0 rfl ?_ | refine O_storeV rfl rfl (all_one4 rfl rfl rfl hone) rfl rfl (storeAt_whole hg1 rfl) ?_ | refine O_step rfl ?_ | refine V_O rfl ?_ | refine O_step rfl ?_ | refine O_nil' ?_ | refine V_cT rfl rfl ?_ | refine V_cF rfl rfl ?_ | refine V_cEq rfl rfl ?_ | refine V_cNe rfl rfl ?_ | refine V_cB rfl rfl (fun _ => ?_) (fun _ => ?_) | refine O_gT' rfl ?_ | refine O_gU' rfl ?_ | refine O_gF' rfl rfl ?_ | refine O_gEq rfl ?_ | refine O_gNe rfl ?_ | refine O_gS rfl (fun _ => ?_) (fun _ => ?_) | refine V_fA rfl rfl ?_ | refine V_fAN rfl rfl ?_ | refine V_D rfl ?_ | refine D_step rfl ?_ | refine D_nil' ?_ | refine D_gT' rfl ?_ | refine D_gU' rfl ?_ | refine D_gF' rfl rfl ?_ | refine D_gS rfl (fun _ => ?_) (fun _ => ?_)
              refine V_fin (r := .tuple [.agg [.int .i64 5, .int .i64 0, .str [], q2], .int .i64 (n' : Nat), .int .i64 0]) rfl (resG_cG rfl St.get_put rfl rfl rfl) (view_tuple (viewL_cons (view_agg (viewL_cons (.int _ _) (viewL_cons (.int _ _) (viewL_cons (.str _) (viewL_cons hvw2 viewL_nil))))) (viewL_cons (.int _ _) (viewL_cons (.int _ _) viewL_nil)))) ?_
              exact .inr ⟨.mk 5 0 [] l', n', _, by rw [hr, ht]; rfl, hq2.vc hI (by simp [I64]) (by simp), rfl⟩
            · refine V_fin (r := .tuple [.agg [.int .i64 0, .int .i64 0, .str [], .nilSl], .int .i64 0, .int .i64 err]) rfl (resG_cG rfl hg rfl rfl rfl) (Pl.view (by (repeat' (first | exact Pl.int _ _ | exact Pl.bool _ | exact Pl.str _ | exact Pl.nilSl | exact pl_nil | refine pl_cons ?_ ?_ | refine Pl.tuple _ ?_ | refine Pl.agg _ ?_ | refine Pl.func _ _ ?_ | assumption | refine Pl.iptr _ _ ?_ | exact pll_nil | refine pll_cons ?_ ?_ | refine Pl.sl _ _ ?_)); first | done | fail)) ?_
              exact .inl ⟨err, by rw [hr, ht], rfl⟩
        obtain ⟨r, h1, ⟨e, h2, rfl⟩ | ⟨v, m, cs, h2, h3, rfl⟩⟩ := key
        · exact .inl ⟨e, h2, h1⟩
        · exact .inr ⟨v, m, cs, h2, h3, h1⟩
end Go.Proofs.YtfdebgebnkbagaaDoor

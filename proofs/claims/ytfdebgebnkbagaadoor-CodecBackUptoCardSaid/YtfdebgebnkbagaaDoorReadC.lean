/- codec.read, codec.Read, codec.Parse. -/
import Derived.Test.YtfdebgebnkbagaaDoorReadB
set_option linter.unusedVariables false
set_option linter.unusedSimpArgs false
namespace Go.Proofs.YtfdebgebnkbagaaDoor
open Go Go.AM Go.RowKit
set_option maxHeartbeats 8000000 in
theorem read_step (f : Nat) (d : Int) (hd : d + f = 9 ∧ 1 ≤ d) (rd : List UInt8 → TR) (hle : RdLe rd) (hrd : f ≠ 0 → ∀ (q : PV) (b : List UInt8), BV q b → b.length ≤ 1073741824 → RdOk n_codec_read [q, .int .i64 (d + 1)] (rd b))
    (t : List UInt8 → TR) (ht0 : t [] = .err 11) (htf : f = 0 → ∀ c r, t (c :: r) = .err 30)
    (hts : f ≠ 0 → ∀ c r, t (c :: r) = if c.toNat < 1 ∨ 7 < c.toNat then .err 30 else if c.toNat = 3 then (match r with
      | [] => .err 11
      | d :: _ => .ok (.mk 3 d.toNat [] []) 2)
    else match decN 10 0 r with
      | .ends => .err 11
      | .form => .err 30
      | .ok u n => restV rd c.toNat u (r.drop n) (n + 1))
    (p : PV) (b : List UInt8) (hp : BV p b) (hb : b.length ≤ 1073741824) : RdOk n_codec_read [p, .int .i64 d] (t b) := by
  have plp := hp.pl
  cases b with
  | nil =>
    rw [ht0]
    refine .inl ⟨11, rfl, ?_⟩
    refine call_V rfl rfl ?_
    repeat' first | refine O_lenB rfl hp ?_ | refine O_cA rfl rfl (run_none _) ?_ | refine O_step rfl ?_ | refine O_stepL rfl ?_ | refine V_O rfl ?_ | refine O_step rfl ?_ | refine O_nil' ?_ | refine V_cT rfl rfl ?_ | refine V_cF rfl rfl ?_ | refine V_cEq rfl rfl ?_ | refine V_cNe rfl rfl ?_ | refine V_cB rfl rfl (fun _ => ?_) (fun _ => ?_) | refine O_gT' rfl ?_ | refine O_gU' rfl ?_ | refine O_gF' rfl rfl ?_ | refine O_gEq rfl ?_ | refine O_gNe rfl ?_ | refine O_gS rfl (fun _ => ?_) (fun _ => ?_) | refine V_fA rfl rfl ?_ | refine V_fAN rfl rfl ?_ | refine V_D rfl ?_ | refine D_step rfl ?_ | refine D_nil' ?_ | refine D_gT' rfl ?_ | refine D_gU' rfl ?_ | refine D_gF' rfl rfl ?_ | refine D_gS rfl (fun _ => ?_) (fun _ => ?_)
    rfl
  | cons c r =>
    have hc := c.toNat_lt
    have hl0 : ¬ (((c :: r).length : Int) = 0) := by simp; omega
    have hat := hp.at (n := 0) (b := c) (by omega) rfl
    have hcv : PV.int .i64 (IntKind.i64.wrap (c.toNat : Int)) = PV.int .i64 (c.toNat : Int) := int_is (by rw [wrap_i64]; omega)
    by_cases hk1 : c.toNat < 1
    · have hk1' : (c.toNat : Int) < 1 := by omega
      have htt : t (c :: r) = .err 30 := by
        by_cases h0 : f = 0
        · exact htf h0 c r
        · rw [hts h0, if_pos (.inl hk1)]
      rw [htt]
      refine .inl ⟨30, rfl, ?_⟩
      refine call_V rfl rfl ?_
      repeat' first | refine O_lenB rfl hp ?_ | refine O_is (dec_not hl0) rfl ?_ | refine O_at rfl rfl hat ?_ | refine O_is hcv rfl ?_ | refine O_is (dec_is hk1') rfl ?_ | refine O_cA rfl rfl (run_none _) ?_ | refine O_step rfl ?_ | refine O_stepL rfl ?_ | refine V_O rfl ?_ | refine O_step rfl ?_ | refine O_nil' ?_ | refine V_cT rfl rfl ?_ | refine V_cF rfl rfl ?_ | refine V_cEq rfl rfl ?_ | refine V_cNe rfl rfl ?_ | refine V_cB rfl rfl (fun _ => ?_) (fun _ => ?_) | refine O_gT' rfl ?_ | refine O_gU' rfl ?_ | refine O_gF' rfl rfl ?_ | refine O_gEq rfl ?_ | refine O_gNe rfl ?_ | refine O_gS rfl (fun _ => ?_) (fun _ => ?_) | refine V_fA rfl rfl ?_ | refine V_fAN rfl rfl ?_ | refine V_D rfl ?_ | refine D_step rfl ?_ | refine D_nil' ?_ | refine D_gT' rfl ?_ | refine D_gU' rfl ?_ | refine D_gF' rfl rfl ?_ | refine D_gS rfl (fun _ => ?_) (fun _ => ?_)
      rfl
    · have hk1' : ¬ (c.toNat : Int) < 1 := by omega
      by_cases hk7 : 7 < c.toNat
      · have hk7' : (7 : Int) < (c.toNat : Int) := by omega
        have htt : t (c :: r) = .err 30 := by
          by_cases h0 : f = 0
          · exact htf h0 c r
          · rw [hts h0, if_pos (.inr hk7)]
        rw [htt]
        refine .inl ⟨30, rfl, ?_⟩
        refine call_V rfl rfl ?_
        repeat' first | refine O_lenB rfl hp ?_ | refine O_is (dec_not hl0) rfl ?_ | refine O_at rfl rfl hat ?_ | refine O_is hcv rfl ?_ | refine O_is (dec_not hk1') rfl ?_ | refine O_is (dec_is hk7') rfl ?_ | refine O_cA rfl rfl (run_none _) ?_ | refine O_step rfl ?_ | refine O_stepL rfl ?_ | refine V_O rfl ?_ | refine O_step rfl ?_ | refine O_nil' ?_ | refine V_cT rfl rfl ?_ | refine V_cF rfl rfl ?_ | refine V_cEq rfl rfl ?_ | refine V_cNe rfl rfl ?_ | refine V_cB rfl rfl (fun _ => ?_) (fun _ => ?_) | refine O_gT' rfl ?_ | refine O_gU' rfl ?_ | refine O_gF' rfl rfl ?_ | refine O_gEq rfl ?_ | refine O_gNe rfl ?_ | refine O_gS rfl (fun _ => ?_) (fun _ => ?_) | refine V_fA rfl rfl ?_ | refine V_fAN rfl rfl ?_ | refine V_D rfl ?_ | refine D_step rfl ?_ | refine D_nil' ?_ | refine D_gT' rfl ?_ | refine D_gU' rfl ?_ | refine D_gF' rfl rfl ?_ | refine D_gS rfl (fun _ => ?_) (fun _ => ?_)
        rfl
      · have hk7' : ¬ (7 : Int) < (c.toNat : Int) := by omega
        by_cases hf0 : f = 0
        · have hd8 : (8 : Int) < d := by omega
          rw [htf hf0]
          refine .inl ⟨30, rfl, ?_⟩
          refine call_V rfl rfl ?_
          repeat' first | refine O_lenB rfl hp ?_ | refine O_is (dec_not hl0) rfl ?_ | refine O_at rfl rfl hat ?_ | refine O_is hcv rfl ?_ | refine O_is (dec_not hk1') rfl ?_ | refine O_is (dec_not hk7') rfl ?_ | refine O_is (dec_is hd8) rfl ?_ | refine O_cA rfl rfl (run_none _) ?_ | refine O_step rfl ?_ | refine O_stepL rfl ?_ | refine V_O rfl ?_ | refine O_step rfl ?_ | refine O_nil' ?_ | refine V_cT rfl rfl ?_ | refine V_cF rfl rfl ?_ | refine V_cEq rfl rfl ?_ | refine V_cNe rfl rfl ?_ | refine V_cB rfl rfl (fun _ => ?_) (fun _ => ?_) | refine O_gT' rfl ?_ | refine O_gU' rfl ?_ | refine O_gF' rfl rfl ?_ | refine O_gEq rfl ?_ | refine O_gNe rfl ?_ | refine O_gS rfl (fun _ => ?_) (fun _ => ?_) | refine V_fA rfl rfl ?_ | refine V_fAN rfl rfl ?_ | refine V_D rfl ?_ | refine D_step rfl ?_ | refine D_nil' ?_ | refine D_gT' rfl ?_ | refine D_gU' rfl ?_ | refine D_gF' rfl rfl ?_ | refine D_gS rfl (fun _ => ?_) (fun _ => ?_)
          rfl
        · have hd8 : ¬ (8 : Int) < d := by omega
          have htc := hts hf0 c r
          rw [if_neg (by omega)] at htc
          by_cases h3 : c.toNat = 3
          · have h3' : (c.toNat : Int) = 3 := by omega
            rw [if_pos h3] at htc
            cases r with
            | nil =>
              rw [htc]
              have h2' : (([c] : List UInt8).length : Int) < 2 := by simp
              refine .inl ⟨11, rfl, ?_⟩
              refine call_V rfl rfl ?_
              repeat' first | refine O_lenB rfl hp ?_ | refine O_is (dec_not hl0) rfl ?_ | refine O_at rfl rfl hat ?_ | refine O_is hcv rfl ?_ | refine O_is (dec_not hk1') rfl ?_ | refine O_is (dec_not hk7') rfl ?_ | refine O_is (dec_not hd8) rfl ?_ | refine O_is (dec_is h3') rfl ?_ | refine O_is (dec_is h2') rfl ?_ | refine O_cA rfl rfl (run_none _) ?_ | refine O_step rfl ?_ | refine O_stepL rfl ?_ | refine V_O rfl ?_ | refine O_step rfl ?_ | refine O_nil' ?_ | refine V_cT rfl rfl ?_ | refine V_cF rfl rfl ?_ | refine V_cEq rfl rfl ?_ | refine V_cNe rfl rfl ?_ | refine V_cB rfl rfl (fun _ => ?_) (fun _ => ?_) | refine O_gT' rfl ?_ | refine O_gU' rfl ?_ | refine O_gF' rfl rfl ?_ | refine O_gEq rfl ?_ | refine O_gNe rfl ?_ | refine O_gS rfl (fun _ => ?_) (fun _ => ?_) | refine V_fA rfl rfl ?_ | refine V_fAN rfl rfl ?_ | refine V_D rfl ?_ | refine D_step rfl ?_ | refine D_nil' ?_ | refine D_gT' rfl ?_ | refine D_gU' rfl ?_ | refine D_gF' rfl rfl ?_ | refine D_gS rfl (fun _ => ?_) (fun _ => ?_)
              rfl
            | cons e r =>
              rw [htc]
              have h2' : ¬ (((c :: e :: r : List UInt8).length : Int) < 2) := by simp; omega
              have he := e.toNat_lt
              have hat1 := hp.at (n := 1) (b := e) (by omega) rfl
              have hev : PV.int .i64 (IntKind.i64.wrap (e.toNat : Int)) = PV.int .i64 (e.toNat : Int) := int_is (by rw [wrap_i64]; omega)
              refine .inr ⟨.mk 3 e.toNat [] [], 2, _, rfl, .nil _ _ _ (by simp [I64]) (by unfold I64; omega) (by simp), ?_⟩
              rw [h3] at hat hcv hk1' hk7' h3'
              refine call_V rfl rfl ?_
              repeat' first | refine O_lenB rfl hp ?_ | refine O_is (dec_not hl0) rfl ?_ | refine O_at rfl rfl hat ?_ | refine O_at rfl rfl hat1 ?_ | refine O_is hcv rfl ?_ | refine O_is hev rfl ?_ | refine O_is (dec_not hk1') rfl ?_ | refine O_is (dec_not hk7') rfl ?_ | refine O_is (dec_not hd8) rfl ?_ | refine O_is (dec_is h3') rfl ?_ | refine O_is (dec_not h2') rfl ?_ | refine O_step rfl ?_ | refine O_stepL rfl ?_ | refine V_O rfl ?_ | refine O_step rfl ?_ | refine O_nil' ?_ | refine V_cT rfl rfl ?_ | refine V_cF rfl rfl ?_ | refine V_cEq rfl rfl ?_ | refine V_cNe rfl rfl ?_ | refine V_cB rfl rfl (fun _ => ?_) (fun _ => ?_) | refine O_gT' rfl ?_ | refine O_gU' rfl ?_ | refine O_gF' rfl rfl ?_ | refine O_gEq rfl ?_ | refine O_gNe rfl ?_ | refine O_gS rfl (fun _ => ?_) (fun _ => ?_) | refine V_fA rfl rfl ?_ | refine V_fAN rfl rfl ?_ | refine V_D rfl ?_ | refine D_step rfl ?_ | refine D_nil' ?_ | refine D_gT' rfl ?_ | refine D_gU' rfl ?_ | refine D_gF' rfl rfl ?_ | refine D_gS rfl (fun _ => ?_) (fun _ => ?_)
              rfl
          · have h3' : ¬ (c.toNat : Int) = 3 := by omega
            rw [if_neg h3] at htc
            let S : St := (emptySt.new (.var [.int .i64 0, .int .i64 0, .str [], .nilSl])).new (.var [.int .i64 (c.toNat : Int), .int .i64 0, .str [], .nilSl])
            obtain ⟨v1, hv1, hb1⟩ := hp.lo S.get (k := .i64) (m := 1) (by omega) (by simp; omega)
            have hd1 : (c :: r).drop (1 : Int).toNat = r := rfl
            rw [hd1] at hb1
            have pl1 := hb1.pl
            have htk := run_NTake hb1
            cases hdn : decN 10 0 r with
            | ends =>
              rw [hdn] at htc htk
              rw [htc]
              have htk' : T.R (.call n_num_Take [v1] (.tuple [.int .u64 0, .int .i64 0, .int .i64 11])) := htk
              refine .inl ⟨11, rfl, ?_⟩
              refine call_V rfl rfl ?_
              repeat' first | refine O_lenB rfl hp ?_ | refine O_is (dec_not hl0) rfl ?_ | refine O_at rfl rfl hat ?_ | refine O_is hcv rfl ?_ | refine O_is (dec_not hk1') rfl ?_ | refine O_is (dec_not hk7') rfl ?_ | refine O_is (dec_not hd8) rfl ?_ | refine O_is (dec_not h3') rfl ?_ | refine O_slice v1 rfl rfl rfl rfl hv1 ?_ | refine O_cA rfl rfl htk' ?_ | refine O_cA rfl rfl (run_none _) ?_ | refine O_step rfl ?_ | refine O_stepL rfl ?_ | refine V_O rfl ?_ | refine O_step rfl ?_ | refine O_nil' ?_ | refine V_cT rfl rfl ?_ | refine V_cF rfl rfl ?_ | refine V_cEq rfl rfl ?_ | refine V_cNe rfl rfl ?_ | refine V_cB rfl rfl (fun _ => ?_) (fun _ => ?_) | refine O_gT' rfl ?_ | refine O_gU' rfl ?_ | refine O_gF' rfl rfl ?_ | refine O_gEq rfl ?_ | refine O_gNe rfl ?_ | refine O_gS rfl (fun _ => ?_) (fun _ => ?_) | refine V_fA rfl rfl ?_ | refine V_fAN rfl rfl ?_ | refine V_D rfl ?_ | refine D_step rfl ?_ | refine D_nil' ?_ | refine D_gT' rfl ?_ | refine D_gU' rfl ?_ | refine D_gF' rfl rfl ?_ | refine D_gS rfl (fun _ => ?_) (fun _ => ?_)
              rfl
            | form =>
              rw [hdn] at htc htk
              rw [htc]
              have htk' : T.R (.call n_num_Take [v1] (.tuple [.int .u64 0, .int .i64 0, .int .i64 12])) := htk
              refine .inl ⟨30, rfl, ?_⟩
              refine call_V rfl rfl ?_
              repeat' first | refine O_lenB rfl hp ?_ | refine O_is (dec_not hl0) rfl ?_ | refine O_at rfl rfl hat ?_ | refine O_is hcv rfl ?_ | refine O_is (dec_not hk1') rfl ?_ | refine O_is (dec_not hk7') rfl ?_ | refine O_is (dec_not hd8) rfl ?_ | refine O_is (dec_not h3') rfl ?_ | refine O_slice v1 rfl rfl rfl rfl hv1 ?_ | refine O_cA rfl rfl htk' ?_ | refine O_cA rfl rfl (run_none _) ?_ | refine O_step rfl ?_ | refine O_stepL rfl ?_ | refine V_O rfl ?_ | refine O_step rfl ?_ | refine O_nil' ?_ | refine V_cT rfl rfl ?_ | refine V_cF rfl rfl ?_ | refine V_cEq rfl rfl ?_ | refine V_cNe rfl rfl ?_ | refine V_cB rfl rfl (fun _ => ?_) (fun _ => ?_) | refine O_gT' rfl ?_ | refine O_gU' rfl ?_ | refine O_gF' rfl rfl ?_ | refine O_gEq rfl ?_ | refine O_gNe rfl ?_ | refine O_gS rfl (fun _ => ?_) (fun _ => ?_) | refine V_fA rfl rfl ?_ | refine V_fAN rfl rfl ?_ | refine V_D rfl ?_ | refine D_step rfl ?_ | refine D_nil' ?_ | refine D_gT' rfl ?_ | refine D_gU' rfl ?_ | refine D_gF' rfl rfl ?_ | refine D_gS rfl (fun _ => ?_) (fun _ => ?_)
              rfl
            | ok u n =>
              rw [hdn] at htc htk
              have hnl := decN_le _ _ _ _ _ hdn
              have hu := decN_u64 hdn
              have htk' : T.R (.call n_num_Take [v1] (.tuple [.int .u64 u, .int .i64 n, .int .i64 0])) := htk
              have hn1 : PV.int .i64 (IntKind.i64.wrap ((n : Int) + 1)) = PV.int .i64 ((n + 1 : Nat) : Int) := int_is (by rw [wrap_i64]; simp at hb; omega)
              have hrest := run_rest (c.toNat : Int) d (by omega) u hu (n + 1) p (c :: r) hp hb (by simp; omega) rd hle (hrd hf0) c.toNat rfl (by omega)
              have hdr : (c :: r).drop (n + 1) = r.drop n := rfl
              have htc' : t (c :: r) = restV rd c.toNat u (r.drop n) (n + 1) := htc
              rw [hdr, ← htc'] at hrest
              rcases hrest with ⟨e, he, hcall⟩ | ⟨w, m, cs, hw, hvc, hcall⟩
              · refine .inl ⟨e, he, ?_⟩
                refine call_V rfl rfl ?_
                repeat' first | refine O_lenB rfl hp ?_ | refine O_is (dec_not hl0) rfl ?_ | refine O_at rfl rfl hat ?_ | refine O_is hcv rfl ?_ | refine O_is (dec_not hk1') rfl ?_ | refine O_is (dec_not hk7') rfl ?_ | refine O_is (dec_not hd8) rfl ?_ | refine O_is (dec_not h3') rfl ?_ | refine O_slice v1 rfl rfl rfl rfl hv1 ?_ | refine O_cA rfl rfl htk' ?_ | refine O_is hn1 rfl ?_ | refine O_cA rfl rfl hcall ?_ | refine O_step rfl ?_ | refine O_stepL rfl ?_ | refine V_O rfl ?_ | refine O_step rfl ?_ | refine O_nil' ?_ | refine V_cT rfl rfl ?_ | refine V_cF rfl rfl ?_ | refine V_cEq rfl rfl ?_ | refine V_cNe rfl rfl ?_ | refine V_cB rfl rfl (fun _ => ?_) (fun _ => ?_) | refine O_gT' rfl ?_ | refine O_gU' rfl ?_ | refine O_gF' rfl rfl ?_ | refine O_gEq rfl ?_ | refine O_gNe rfl ?_ | refine O_gS rfl (fun _ => ?_) (fun _ => ?_) | refine V_fA rfl rfl ?_ | refine V_fAN rfl rfl ?_ | refine V_D rfl ?_ | refine D_step rfl ?_ | refine D_nil' ?_ | refine D_gT' rfl ?_ | refine D_gU' rfl ?_ | refine D_gF' rfl rfl ?_ | refine D_gS rfl (fun _ => ?_) (fun _ => ?_)
                rfl
              · refine .inr ⟨w, m, cs, hw, hvc, ?_⟩
                have plc := hvc.pl
                obtain ⟨wk, wn, ws, wl⟩ := w
                obtain ⟨q1, q2, q3, q, rfl, hq⟩ := hvc.open
                have plq := hq.pl
                have oq := hvc.one
                have hst : storeAt S (.ptr 0 0) (.agg [.int .i64 wk, .int .i64 wn, .str ws, q]) = some (S.put 0 (.var [.int .i64 wk, .int .i64 wn, .str ws, q])) := storeAt_whole rfl rfl
                refine call_V rfl rfl ?_
                repeat' first | refine O_lenB rfl hp ?_ | refine O_is (dec_not hl0) rfl ?_ | refine O_at rfl rfl hat ?_ | refine O_is hcv rfl ?_ | refine O_is (dec_not hk1') rfl ?_ | refine O_is (dec_not hk7') rfl ?_ | refine O_is (dec_not hd8) rfl ?_ | refine O_is (dec_not h3') rfl ?_ | refine O_slice v1 rfl rfl rfl rfl hv1 ?_ | refine O_cA rfl rfl htk' ?_ | refine O_is hn1 rfl ?_ | refine O_cA rfl rfl hcall ?_ | refine O_storeV rfl rfl oq rfl rfl hst ?_ | refine O_step rfl ?_ | refine O_stepL rfl ?_ | refine V_O rfl ?_ | refine O_step rfl ?_ | refine O_nil' ?_ | refine V_cT rfl rfl ?_ | refine V_cF rfl rfl ?_ | refine V_cEq rfl rfl ?_ | refine V_cNe rfl rfl ?_ | refine V_cB rfl rfl (fun _ => ?_) (fun _ => ?_) | refine O_gT' rfl ?_ | refine O_gU' rfl ?_ | refine O_gF' rfl rfl ?_ | refine O_gEq rfl ?_ | refine O_gNe rfl ?_ | refine O_gS rfl (fun _ => ?_) (fun _ => ?_) | refine V_fA rfl rfl ?_ | refine V_fAN rfl rfl ?_ | refine V_D rfl ?_ | refine D_step rfl ?_ | refine D_nil' ?_ | refine D_gT' rfl ?_ | refine D_gU' rfl ?_ | refine D_gF' rfl rfl ?_ | refine D_gS rfl (fun _ => ?_) (fun _ => ?_)
                rfl
theorem run_read : ∀ (f : Nat) (d : Int), d + f = 9 ∧ 1 ≤ d → ∀ (p : PV) (b : List UInt8), BV p b → b.length ≤ 1073741824 → RdOk n_codec_read [p, .int .i64 d] (readV f b)
  | 0, d, hd, p, b, hp, hb => read_step 0 d hd (fun _ => .err 30) (fun b => ⟨fun e he => (by injection he with he; omega), fun v k hk => by cases hk⟩) (fun h => absurd rfl h) (readV 0) rfl (fun _ c r => rfl) (fun h => absurd rfl h) p b hp hb
  | f + 1, d, hd, p, b, hp, hb => read_step (f + 1) d hd (readV f) (readV_le f) (fun _ q b hq hb => run_read f (d + 1) (by omega) q b hq hb) (readV (f + 1)) rfl (fun h => by omega) (fun _ c r => rfl) p b hp hb
def readT (b : List UInt8) : TR := match readV 8 b with
  | .err e => .err e
  | .ok v n => made v n
set_option maxHeartbeats 4000000 in
theorem run_Read {p : PV} {b : List UInt8} (hp : BV p b) (hb : b.length ≤ 1073741824) : RdOk n_codec_Read [p] (readT b) := by
  have plp := hp.pl
  unfold readT
  rcases run_read 8 1 (by omega) p b hp hb with ⟨e, he, hcall⟩ | ⟨w, m, cs, hw, hvc, hcall⟩
  · have hne := (readV_le 8 b).1 e he
    rw [he]
    refine .inl ⟨e, rfl, ?_⟩
    refine call_V rfl rfl ?_
    repeat' first | refine O_cA rfl rfl hcall ?_ | refine O_is (ndec_not hne) rfl ?_ | refine O_cA rfl rfl (run_none _) ?_ | refine O_step rfl ?_ | refine O_stepL rfl ?_ | refine V_O rfl ?_ | refine O_step rfl ?_ | refine O_nil' ?_ | refine V_cT rfl rfl ?_ | refine V_cF rfl rfl ?_ | refine V_cEq rfl rfl ?_ | refine V_cNe rfl rfl ?_ | refine V_cB rfl rfl (fun _ => ?_) (fun _ => ?_) | refine O_gT' rfl ?_ | refine O_gU' rfl ?_ | refine O_gF' rfl rfl ?_ | refine O_gEq rfl ?_ | refine O_gNe rfl ?_ | refine O_gS rfl (fun _ => ?_) (fun _ => ?_) | refine V_fA rfl rfl ?_ | refine V_fAN rfl rfl ?_ | refine V_D rfl ?_ | refine D_step rfl ?_ | refine D_nil' ?_ | refine D_gT' rfl ?_ | refine D_gU' rfl ?_ | refine D_gF' rfl rfl ?_ | refine D_gS rfl (fun _ => ?_) (fun _ => ?_)
    rfl
  · rw [hw]
    have plc := hvc.pl
    have hmade := run_madeG hvc m
    obtain ⟨wk, wn, ws, wl⟩ := w
    obtain ⟨q1, q2, q3, q, rfl, hq⟩ := hvc.open
    have plq := hq.pl
    have oq := hvc.one
    let S : St := (emptySt.new (.var [.int .i64 0, .int .i64 0, .str [], .nilSl])).new (.var [.int .i64 0, .int .i64 0, .str [], .nilSl])
    have hst : storeAt S (.ptr 1 0) (.agg [.int .i64 wk, .int .i64 wn, .str ws, q]) = some (S.put 1 (.var [.int .i64 wk, .int .i64 wn, .str ws, q])) := storeAt_whole rfl rfl
    have hg1 : (S.put 1 (.var [.int .i64 wk, .int .i64 wn, .str ws, q])).get 1 = some (.var [.int .i64 wk, .int .i64 wn, .str ws, q]) := St.get_put
    have hg0 : (S.put 1 (.var [.int .i64 wk, .int .i64 wn, .str ws, q])).get 0 = some (.var [.int .i64 0, .int .i64 0, .str [], .nilSl]) := rfl
    rcases hmade with ⟨e, he, hmc⟩ | ⟨w', m', cs', hw', hvc', hmc⟩
    · refine .inl ⟨e, he, ?_⟩
      refine call_V rfl rfl ?_
      repeat' first | refine O_cA rfl rfl hcall ?_ | refine O_cA rfl rfl hmc ?_ | refine O_storeV rfl rfl oq rfl rfl hst ?_ | refine O_loadP rfl hg1 rfl ?_ | refine O_storeV rfl rfl rfl rfl rfl (storeAt_whole hg0 rfl) ?_ | refine O_step rfl ?_ | refine O_stepL rfl ?_ | refine V_O rfl ?_ | refine O_step rfl ?_ | refine O_nil' ?_ | refine V_cT rfl rfl ?_ | refine V_cF rfl rfl ?_ | refine V_cEq rfl rfl ?_ | refine V_cNe rfl rfl ?_ | refine V_cB rfl rfl (fun _ => ?_) (fun _ => ?_) | refine O_gT' rfl ?_ | refine O_gU' rfl ?_ | refine O_gF' rfl rfl ?_ | refine O_gEq rfl ?_ | refine O_gNe rfl ?_ | refine O_gS rfl (fun _ => ?_) (fun _ => ?_) | refine V_fA rfl rfl ?_ | refine V_fAN rfl rfl ?_ | refine V_D rfl ?_ | refine D_step rfl ?_ | refine D_nil' ?_ | refine D_gT' rfl ?_ | refine D_gU' rfl ?_ | refine D_gF' rfl rfl ?_ | refine D_gS rfl (fun _ => ?_) (fun _ => ?_)
      rfl
    · refine .inr ⟨w', m', cs', hw', hvc', ?_⟩
      obtain ⟨wk', wn', ws', wl'⟩ := w'
      obtain ⟨r1, r2, r3, q', rfl, hq'⟩ := hvc'.open
      have plq' := hq'.pl
      have oq' := hvc'.one
      refine call_V rfl rfl ?_
      repeat' first | refine O_cA rfl rfl hcall ?_ | refine O_cA rfl rfl hmc ?_ | refine O_storeV rfl rfl oq rfl rfl hst ?_ | refine O_loadP rfl hg1 rfl ?_ | refine O_storeV rfl rfl oq' rfl rfl (storeAt_whole hg0 rfl) ?_ | refine O_step rfl ?_ | refine O_stepL rfl ?_ | refine V_O rfl ?_ | refine O_step rfl ?_ | refine O_nil' ?_ | refine V_cT rfl rfl ?_ | refine V_cF rfl rfl ?_ | refine V_cEq rfl rfl ?_ | refine V_cNe rfl rfl ?_ | refine V_cB rfl rfl (fun _ => ?_) (fun _ => ?_) | refine O_gT' rfl ?_ | refine O_gU' rfl ?_ | refine O_gF' rfl rfl ?_ | refine O_gEq rfl ?_ | refine O_gNe rfl ?_ | refine O_gS rfl (fun _ => ?_) (fun _ => ?_) | refine V_fA rfl rfl ?_ | refine V_fAN rfl rfl ?_ | refine V_D rfl ?_ | refine D_step rfl ?_ | refine D_nil' ?_ | refine D_gT' rfl ?_ | refine D_gU' rfl ?_ | refine D_gF' rfl rfl ?_ | refine D_gS rfl (fun _ => ?_) (fun _ => ?_)
      rfl
end Go.Proofs.YtfdebgebnkbagaaDoor

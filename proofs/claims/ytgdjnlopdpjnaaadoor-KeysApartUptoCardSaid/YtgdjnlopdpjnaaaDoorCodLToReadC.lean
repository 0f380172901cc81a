/- rambleref03.takeStr, codec.str. · codec.Take, rambleref03.Take. · codec.Values. · codec.read, over plain values; num.Zag; codec.made of any value. · codec.rest: the loop over the values that stand within. · codec.rest. · codec.read, codec.Read, codec.Parse. -/
import Derived.Test.YtgdjnlopdpjnaaaDoorValIToPutW
import Derived.Test.YtgdjnlopdpjnaaaDoorValBToValF
set_option linter.unusedVariables false
set_option linter.unusedSimpArgs false
namespace Go.Proofs.YtgdjnlopdpjnaaaDoor
open Go Go.AM Go.RowKit
theorem resG_c3 {e : EC} {look : Nat → Option Tok} {t : Nat} {cs : List PV} {x y : PV} (h2 : e.get 2 = some (.ptr t 0)) (hg : look t = some (.var cs)) (hl : cs.length = 4) (h3 : e.get 3 = some x) (h4 : e.get 4 = some y) : resG e look [.cell 2 4 true, .tmp 3, .tmp 4] = some (.tuple [.agg cs, x, y]) := by
  have hld : loadAt look 4 true (.ptr t 0) = some (.agg cs) := by
    simp only [loadAt, behind, hg, Option.bind_some]
    rw [← hl]
    simp [slice?]
  simp [resG, resGs, resG1, h2, h3, h4, hld]
theorem strR_none : ∀ (x acc : List UInt8) (n : Nat), x.count 0 = 0 → Z7h x acc n = .err 11
  | [], acc, n, _ => rfl
  | b :: x, acc, n, h => by
    rw [List.count_cons] at h
    have hb : b ≠ 0 := by rintro rfl; simp at h
    rw [strR_ne hb]
    exact strR_none x _ _ (by omega)
theorem AccR.append {st : St} {v : PV} {b : List UInt8} (h : AccR st v b) (c : List UInt8) (hr : b.length + c.length ≤ 140737488355328) : ∃ v' st', Z0b st 1 1 v (Z1 c) = some (v', st') ∧ AccR st' v' (b ++ c) := by
  by_cases hc : c = []
  · subst hc
    refine ⟨v, st, Z2a ?_, by rw [List.append_nil]; exact h⟩
    rcases h.1 with ⟨rfl, _⟩ | ⟨t, g, rfl, _, _⟩
    · exact .inl rfl
    · exact .inr (.inr ⟨_, _, _, _, _, rfl⟩)
  · exact h.grow c hc hr
def strQ (t : TR) : EX → EC → St → Prop := fun x e' st' => x = .ret ∧ ∃ (a b : Int) (s : List UInt8) (c d : Int), trPV t = .tuple [.agg [.int .i64 a, .int .i64 b, .str s, .nilSl], .int .i64 c, .int .i64 d] ∧ e' = .put 2 (.ptr 0 0) (.put 3 (.int .i64 c) (.put 4 (.int .i64 d) .nil)) ∧ st'.get 0 = some (.var [.int .i64 a, .int .i64 b, .str s, .nilSl])
theorem Z7f {n : Int} (h0 : 0 ≤ n) (h1 : n ≤ 4611686018427387904) : IntKind.i64.wrap n = n := by rw [Z06]; omega
set_option maxHeartbeats 4000000 in
theorem str_loop (p : PV) (b0 : List UInt8) (hp : BV p b0) (hb0 : b0.length ≤ 1073741824) : ∀ (m : Nat) (rest pre acc : List UInt8) (e : EC) (st : St) (v : PV), rest.length < m → b0 = pre ++ rest → acc.length ≤ pre.length → AccR st v acc → e.get 0 = some p → e.get 2 = some (.ptr 0 0) → e.get 5 = some v → e.get 6 = some (.int .i64 pre.length) →
    V T (PE (strQ (Z7h rest acc pre.length))) [.code (.loop Z5r)] .normal e st := by
  intro m
  have ret : ∀ (t : TR) (fr : List Fr) (x : EX) (e' : EC) (st : St) (a b : Int) (s : List UInt8) (c d : Int), trPV t = .tuple [.agg [.int .i64 a, .int .i64 b, .str s, .nilSl], .int .i64 c, .int .i64 d] → Zi 200 fr x = ([], .ret) → e'.get 2 = some (.ptr 0 0) → e'.get 3 = some (.int .i64 c) → e'.get 4 = some (.int .i64 d) → st.get 0 = some (.var [.int .i64 a, .int .i64 b, .str s, .nilSl]) → V T (PE (strQ t)) fr x e' st := fun t fr x e' st a b s c d ht hadv g2 g3 g4 hg =>
    Zj (.put 2 (.ptr 0 0) (.put 3 _ (.put 4 _ .nil))) (Z2 g2 (Z2 g3 (Z2 g4 Zk))) (Z1y hadv ⟨rfl, a, b, s, c, d, ht, rfl, hg⟩)
  induction m with
  | zero => intro rest pre acc e st v hm; omega
  | succ m ih =>
    intro rest pre acc e st v hm hb ha hA h0 h2 h5 h6
    have hlen : pre.length + rest.length = b0.length := by subst hb; simp
    obtain ⟨hAT, hn, ht, c0, c1, c2, c3, hg0⟩ := id hA
    obtain ⟨v1, hv1, hb1⟩ := hp.lo st.get (k := .i64) (m := (pre.length : Int)) (by omega) (by omega)
    rw [Int.toNat_natCast, hb, List.drop_left] at hb1
    have pl1 := hb1.pl
    have hcall := Zal hb1 0
    rw [show (0 : Int).toNat.toUInt8 = 0 from rfl] at hcall
    rcases idx_spec rest with ⟨hi, hcn⟩ | ⟨x, y, hxy, hx0, hi⟩
    · rw [hi] at hcall
      have hs := strR_none rest acc pre.length hcn
      rw [hs]
      refine Zj (.put 0 p (.put 2 _ (.put 5 _ (.put 6 _ .nil)))) (Z2 h0 (Z2 h2 (Z2 h5 (Z2 h6 Zk)))) (Zn ?_)
      clear ih
      repeat' first | refine Z3 rfl ?_ | refine Zb rfl rfl ?_ | ((with_reducible show VO _ _ _ _ _ _ _); first | refine Z2c v1 rfl rfl rfl rfl hv1 ?_ | refine Z8 rfl rfl hcall ?_ | refine Z8 rfl rfl (Z4c _) ?_ | refine Zp rfl rfl rfl rfl rfl (Z03 hg0 rfl) ?_ | refine Z0 rfl ?_ | refine Z4 ?_ | refine Z19 rfl rfl ?_) | refine ret (.err 11) _ _ _ _ _ _ _ _ _ rfl rfl rfl rfl rfl St.get_put
    · rw [hi] at hcall
      have hxl : x.length + 1 + y.length = rest.length := by rw [hxy]; simp; omega
      have hs := strR_app x (0 :: y) acc pre.length hx0
      rw [← hxy] at hs
      have hn0 : decide ((x.length : Int) < 0) = false := decide_eq_false (by omega)
      have hw1 : IntKind.i64.wrap (IntKind.i64.wrap ((pre.length : Int) + x.length) + 1) = ((pre.length + x.length + 1 : Nat) : Int) := by rw [Z7f (n := (pre.length : Int) + x.length) (by omega) (by omega), Z7f (by omega) (by omega)]; rfl
      cases y with
      | nil =>
        have hs2 : Z7h rest acc pre.length = .err 11 := by rw [hs]; simp [Z7h]
        have hge : decide ((b0.length : Int) ≤ IntKind.i64.wrap (IntKind.i64.wrap ((pre.length : Int) + x.length) + 1)) = true := decide_eq_true (by rw [hw1]; simp at hxl; omega)
        rw [hs2]
        refine Zj (.put 0 p (.put 2 _ (.put 5 _ (.put 6 _ .nil)))) (Z2 h0 (Z2 h2 (Z2 h5 (Z2 h6 Zk)))) (Zn ?_)
        clear ih
        repeat' first | refine Z27 hge rfl rfl ?_ | refine Z3 rfl ?_ | ((with_reducible show VO _ _ _ _ _ _ _); first | refine Z2c v1 rfl rfl rfl rfl hv1 ?_ | refine Z0a rfl hp ?_ | refine Z8 rfl rfl hcall ?_ | refine Z8 rfl rfl (Z4c _) ?_ | refine Zp rfl rfl rfl rfl rfl (Z03 hg0 rfl) ?_ | refine Z0 rfl ?_ | refine Z4 ?_ | refine Zq rfl ?_) | refine ret (.err 11) _ _ _ _ _ _ _ _ _ rfl rfl rfl rfl rfl St.get_put
        all_goals (exfalso; simp at *; try omega)
      | cons d y =>
        have hge : decide ((b0.length : Int) ≤ IntKind.i64.wrap (IntKind.i64.wrap ((pre.length : Int) + x.length) + 1)) = false := decide_eq_false (by rw [hw1]; simp at hxl; omega)
        have hj : IntKind.i64.wrap ((pre.length : Int) + x.length) = ((pre.length + x.length : Nat) : Int) := by rw [Z7f (by omega) (by omega)]; rfl
        obtain ⟨v2, hv2, hb2⟩ := hp.lohi st.get (k := .i64) (k' := .i64) (m := (pre.length : Int)) (m' := IntKind.i64.wrap ((pre.length : Int) + x.length)) (by omega) (by rw [hj]; omega) (by rw [hj]; omega)
        have hb2' : BV v2 x := by
          have : (b0.drop (pre.length : Int).toNat).take ((IntKind.i64.wrap ((pre.length : Int) + x.length)).toNat - (pre.length : Int).toNat) = x := by
            rw [hj, hb, hxy, Int.toNat_natCast, Int.toNat_natCast, List.drop_left, Nat.add_sub_cancel_left, List.take_left]
          rw [this] at hb2
          exact hb2
        obtain ⟨v3, st3, k1, k2⟩ := hA.append x (by simp at hxl; omega)
        obtain ⟨hAT3, hn3, ht3, d0, d1, d2, d3, hg3⟩ := id k2
        have hel := RB.elems (AccT.rb (st := st3) hAT3)
        have hw2 : IntKind.i64.wrap ((pre.length : Int) + IntKind.i64.wrap ((x.length : Int) + 2)) = ((pre.length + x.length + 2 : Nat) : Int) := by rw [Z7f (n := (x.length : Int) + 2) (by omega) (by omega), Z7f (by omega) (by omega)]; omega
        have hw4 : IntKind.i64.wrap (IntKind.i64.wrap ((pre.length : Int) + IntKind.i64.wrap ((x.length : Int) + 2)) - 1) = ((pre.length + x.length + 1 : Nat) : Int) := by rw [hw2, Z7f (by omega) (by omega)]; omega
        have hat2 : At 1 p (IntKind.i64.wrap (IntKind.i64.wrap ((pre.length : Int) + IntKind.i64.wrap ((x.length : Int) + 2)) - 1)) [.int .u8 d.toNat] := by
          rw [hw4]
          refine hp.at (by omega) ?_
          rw [Int.toNat_natCast, hb, hxy]
          rw [List.getElem?_append_right (by omega), List.getElem?_append_right (by omega)]
          rw [show pre.length + x.length + 1 - pre.length - x.length = 1 by omega]
          rfl
        by_cases hd1 : d = 1
        · subst hd1
          have hs1 : Z7h rest acc pre.length = made (.mk 2 0 (acc ++ x) []) (pre.length + x.length + 2) := by rw [hs]; simp [Z7h]
          have hmade := run_made 2 0 (acc ++ x) (pre.length + x.length + 2) (by simp [I64]) (by simp [I64]) (by simp at hxl ⊢; omega)
          rw [← hw2] at hmade
          have hstr := run_Str (acc ++ x)
          obtain ⟨a, b, s, c', d', hf⟩ := Zac (made (.mk 2 0 (acc ++ x) []) (pre.length + x.length + 2))
          rw [hf] at hmade
          rw [hs1]
          refine Zj (.put 0 p (.put 2 _ (.put 5 _ (.put 6 _ .nil)))) (Z2 h0 (Z2 h2 (Z2 h5 (Z2 h6 Zk)))) (Zn ?_)
          clear ih
          repeat' first | ((with_reducible show V _ _ _ _ _ _); first | refine Z3v hge rfl rfl ?_ | refine Z3 rfl ?_ | refine Zb rfl rfl ?_) | ((with_reducible show VO _ _ _ _ _ _ _); first | refine Z2c v1 rfl rfl rfl rfl hv1 ?_ | refine Z2c v2 rfl rfl rfl rfl hv2 ?_ | refine Z0a rfl hp ?_ | refine Z8 rfl rfl hcall ?_ | refine Zh rfl rfl hat2 ?_ | refine Z02 rfl rfl (Z0f hb2') (Z00 _) (by decide) (by decide) k1 ?_ | refine O_toStrA rfl hel ?_ | refine Z8 rfl rfl hstr ?_ | refine Z8 rfl rfl hmade ?_ | refine Zp rfl rfl rfl rfl rfl (Z03 hg3 rfl) ?_ | refine Z0 rfl ?_ | refine Z4 ?_ | refine Zq rfl ?_) | refine ret _ _ _ _ _ _ _ _ _ _ hf rfl rfl rfl rfl St.get_put
          all_goals (exfalso; simp at *; try omega)
        · by_cases hd2 : d = 255
          · subst hd2
            obtain ⟨v4, st4, j1, j2⟩ := k2.grow [0] (by simp) (by simp at hxl ⊢; omega)
            have hs1 : Z7h rest acc pre.length = Z7h y (acc ++ x ++ [0]) (pre.length + x.length + 2) := by rw [hs]; simp [Z7h]
            have fin : ∀ (fr : List Fr) (xx : EX) (e' : EC), Zi 200 fr xx = ([.code (.loop Z5r)], .normal) → e'.get 0 = some p → e'.get 2 = some (.ptr 0 0) → e'.get 5 = some v4 → e'.get 6 = some (.int .i64 (IntKind.i64.wrap ((pre.length : Int) + IntKind.i64.wrap ((x.length : Int) + 2)))) → V T (PE (strQ (Z7h rest acc pre.length))) fr xx e' st4 := fun fr xx e' hadv g0 g2 g5 g6 => Z38 hadv (by
              have hpx : (pre ++ x ++ [0, 255]).length = pre.length + x.length + 2 := by simp; omega
              rw [hw2, ← hpx] at g6
              rw [hs1, ← hpx]
              exact ih y (pre ++ x ++ [0, 255]) (acc ++ x ++ [0]) e' st4 v4 (by simp at hxl; omega) (by rw [hb, hxy]; simp) (by simp; omega) j2 g0 g2 g5 g6)
            refine Zj (.put 0 p (.put 2 _ (.put 5 _ (.put 6 _ .nil)))) (Z2 h0 (Z2 h2 (Z2 h5 (Z2 h6 Zk)))) (Zn ?_)
            clear ih
            repeat' first | ((with_reducible show V _ _ _ _ _ _); first | refine Z3v hge rfl rfl ?_ | refine Z3 rfl ?_ | refine Zb rfl rfl ?_ | refine Ze rfl rfl ?_) | ((with_reducible show VO _ _ _ _ _ _ _); first | refine Z2c v1 rfl rfl rfl rfl hv1 ?_ | refine Z2c v2 rfl rfl rfl rfl hv2 ?_ | refine Z0a rfl hp ?_ | refine Z8 rfl rfl hcall ?_ | refine Zh rfl rfl hat2 ?_ | refine Z02 rfl rfl (Z0f hb2') (Z00 _) (by decide) (by decide) k1 ?_ | refine Z02 (src := Z1 [0]) rfl rfl rfl (Z00 _) (by decide) (by decide) j1 ?_ | refine Z0 rfl ?_ | refine Z4 ?_ | refine Zq rfl ?_) | refine fin _ _ _ rfl rfl rfl rfl rfl
            all_goals (exfalso; clear fin; simp at *; try omega)
          · have hs1 : Z7h rest acc pre.length = .err 30 := by rw [hs]; simp [Z7h, hd1, hd2]
            have e1 : decide ((d.toNat : Int) = 1) = false := decide_eq_false (fun h => hd1 (UInt8.toNat_inj.1 (by have : (1 : UInt8).toNat = 1 := rfl; omega)))
            have e2 : decide ((d.toNat : Int) = 255) = false := decide_eq_false (fun h => hd2 (UInt8.toNat_inj.1 (by have : (255 : UInt8).toNat = 255 := rfl; omega)))
            rw [hs1]
            refine Zj (.put 0 p (.put 2 _ (.put 5 _ (.put 6 _ .nil)))) (Z2 h0 (Z2 h2 (Z2 h5 (Z2 h6 Zk)))) (Zn ?_)
            clear ih
            repeat' first | ((with_reducible show V _ _ _ _ _ _); first | refine Z3v hge rfl rfl ?_ | refine Z3v e1 rfl rfl ?_ | refine Z3v e2 rfl rfl ?_ | refine Z3 rfl ?_) | ((with_reducible show VO _ _ _ _ _ _ _); first | refine Z2c v1 rfl rfl rfl rfl hv1 ?_ | refine Z2c v2 rfl rfl rfl rfl hv2 ?_ | refine Z0a rfl hp ?_ | refine Z8 rfl rfl hcall ?_ | refine Zh rfl rfl hat2 ?_ | refine Z02 rfl rfl (Z0f hb2') (Z00 _) (by decide) (by decide) k1 ?_ | refine Z8 rfl rfl (Z4c _) ?_ | refine Zp rfl rfl rfl rfl rfl (Z03 hg3 rfl) ?_ | refine Z0 rfl ?_ | refine Z4 ?_ | refine Zq rfl ?_) | refine ret (.err 30) _ _ _ _ _ _ _ _ _ rfl rfl rfl rfl rfl St.get_put
            all_goals (exfalso; simp at *; try omega)
theorem run_str {p : PV} {c : UInt8} {r : List UInt8} (hp : BV p (c :: r)) (hb : (c :: r).length ≤ 1073741824) : T.R (.call n_codec_str [p] (trPV (Z7h r [] 1))) := by
  have hl := fun e st v hA h0 h2 h5 h6 => str_loop p (c :: r) hp hb (r.length + 1) r [c] [] e st v (by omega) rfl (by simp) hA h0 h2 h5 h6
  refine Zo rfl rfl ?_
  repeat' first | refine Z55 rfl (hl _ (emptySt.new (.var [.int .i64 0, .int .i64 0, .str [], .nilSl])) _ ⟨.inl ⟨rfl, rfl⟩, by show 0 < 1; omega, by simp [Z0n], _, _, _, _, rfl⟩ rfl rfl rfl rfl) ?_ | refine Z3 rfl ?_ | ((with_reducible show VO _ _ _ _ _ _ _); first | refine Z0 rfl ?_ | refine Z9 rfl ?_ | refine Z4 ?_)
  rintro x e' st' ⟨rfl, a, b, s, m, d, ht, rfl, hg0⟩
  have ht' : trPV (Z7h r [] 1) = _ := ht
  rw [ht']
  exact Z5z rfl (resG_c3 rfl hg0 rfl rfl rfl) (Pl.view (by (repeat' (first | exact Pl.int _ _ | exact Pl.bool _ | exact Pl.str _ | exact Pl.nilSl | exact Z45 | refine Z0k ?_ ?_ | refine Pl.tuple _ ?_ | refine Pl.agg _ ?_ | refine Pl.func _ _ ?_ | assumption | refine Pl.iptr _ _ ?_ | exact Z9k | refine Z6n ?_ ?_ | refine Pl.sl _ _ ?_)); first | done | fail)) rfl
theorem u8_eq {c : UInt8} {k : Nat} (hk : k < 256) (h : c ≠ UInt8.ofNat k) : decide (IntKind.i64.wrap (c.toNat : Int) = (k : Int)) = false := decide_eq_false (fun e => h (by
  have := c.toNat_lt
  rw [Z7f (by omega) (by omega)] at e
  apply UInt8.toNat_inj.1
  rw [UInt8.toNat_ofNat']
  omega))
theorem i64_ord (u : Nat) (hu : u < 18446744073709551616) : I64 (Z7g u) := by unfold I64 Z7g; omega
theorem p256 : (256 : Nat) ^ 8 = 18446744073709551616 := by decide
set_option maxHeartbeats 4000000 in
theorem run_Take {p : PV} {b : List UInt8} (hp : BV p b) (hb : b.length ≤ 1073741824) : T.R (.call n_codec_Take [p] (trPV (Z64 b))) := by
  have plp := hp.pl
  cases b with
  | nil =>
    refine Zo rfl rfl ?_
    repeat' first | ((with_reducible show V _ _ _ _ _ _); first | refine Z3 rfl ?_ | refine Zb rfl rfl ?_ | refine Zl rfl rfl ?_) | ((with_reducible show VO _ _ _ _ _ _ _); first | refine Z0a rfl hp ?_ | refine Z8 rfl rfl (Z4c _) ?_ | refine Z0 rfl ?_ | refine Z9 rfl ?_ | refine Z4 ?_)
    rfl
  | cons c r =>
    have hne : decide (((c :: r).length : Int) = 0) = false := decide_eq_false (by simp; omega)
    have hat := hp.at (n := 0) (b := c) (by omega) rfl
    by_cases h167 : c = 1 ∨ c = 6 ∨ c = 7
    · by_cases h8 : r.length < 8
      · have hlt : decide (((c :: r).length : Int) < 9) = true := decide_eq_true (by simp; omega)
        have ht : Z64 (c :: r) = .err 11 := by simp only [Z64]; rw [if_pos h167, if_pos h8]
        rw [ht]
        rcases h167 with rfl | rfl | rfl
        · refine Zo rfl rfl ?_
          repeat' first | ((with_reducible show V _ _ _ _ _ _); first | refine Z3v hne rfl rfl ?_ | refine Z27 hlt rfl rfl ?_ | refine Z3 rfl ?_ | refine Zb rfl rfl ?_ | refine Zl rfl rfl ?_) | ((with_reducible show VO _ _ _ _ _ _ _); first | refine Z0a rfl hp ?_ | refine Zh rfl rfl hat ?_ | refine Z8 rfl rfl (Z4c _) ?_ | refine Z0 rfl ?_ | refine Z9 rfl ?_ | refine Z4 ?_)
          rfl
        · refine Zo rfl rfl ?_
          repeat' first | ((with_reducible show V _ _ _ _ _ _); first | refine Z3v hne rfl rfl ?_ | refine Z27 hlt rfl rfl ?_ | refine Z3 rfl ?_ | refine Zb rfl rfl ?_ | refine Zl rfl rfl ?_) | ((with_reducible show VO _ _ _ _ _ _ _); first | refine Z0a rfl hp ?_ | refine Zh rfl rfl hat ?_ | refine Z8 rfl rfl (Z4c _) ?_ | refine Z0 rfl ?_ | refine Z9 rfl ?_ | refine Z4 ?_)
          rfl
        · refine Zo rfl rfl ?_
          repeat' first | ((with_reducible show V _ _ _ _ _ _); first | refine Z3v hne rfl rfl ?_ | refine Z27 hlt rfl rfl ?_ | refine Z3 rfl ?_ | refine Zb rfl rfl ?_ | refine Zl rfl rfl ?_) | ((with_reducible show VO _ _ _ _ _ _ _); first | refine Z0a rfl hp ?_ | refine Zh rfl rfl hat ?_ | refine Z8 rfl rfl (Z4c _) ?_ | refine Z0 rfl ?_ | refine Z9 rfl ?_ | refine Z4 ?_)
          rfl
      · have hlt : decide (((c :: r).length : Int) < 9) = false := decide_eq_false (by simp; omega)
        have ht : Z64 (c :: r) = made (.mk c.toNat (Z7g (un8 (r.take 8))) [] []) 9 := by simp only [Z64]; rw [if_pos h167, if_neg h8]
        have hl8 : (r.take 8).length = 8 := by simp; omega
        have hu := un8_lt (r.take 8)
        rw [hl8, p256] at hu
        have hI := i64_ord _ hu
        have hmade := fun k hk => run_made k (Z7g (un8 (r.take 8))) [] 9 hk hI (by simp)
        have hun := unflip _ hu
        obtain ⟨va, vb, vs, vm, vd, hf⟩ := Zac (made (.mk c.toNat (Z7g (un8 (r.take 8))) [] []) 9)
        rw [ht, hf]
        obtain ⟨f, rfl⟩ : ∃ f, p = .sl (Z1 (c :: r)) f := by cases hp with
          | sl _ f => exact ⟨f, rfl⟩
        have hs := fun look => Zgq (look := look) (sz := 1) (k := .i64) (k' := .i64) (lo := 1) (hi := 9) (f := f) (Z26 (c :: r)) (by omega) (by omega) (by rw [Z01]; simp; omega)
        have hcut : ((Z1 (c :: r)).drop (1 : Int).toNat).take ((9 : Int).toNat - (1 : Int).toNat) = Z1 (r.take 8) := by rw [Z3l, Z5w]; rfl
        rw [hcut] at hs
        obtain ⟨fl, hfl⟩ : ∃ fl : Bool, (∀ look, sliceSl? look 1 (some (.int .i64 1)) (some (.int .i64 9)) none (.sl (Z1 (c :: r)) f) = some (.sl (Z1 (r.take 8)) fl)) := ⟨_, hs⟩
        have hQ := BV.sl (r.take 8) fl
        have hloop := fun e st h2 h5 h6 h35 h36 h37 => take_loop _ (r.take 8) hQ hl8 (.ptr 0 0) (.ptr 1 0) (r.take 8) [] e st rfl h2 h5 h6 h35 h36 h37
        have h36 := congrArg (fun n : Nat => some (PV.int .i64 (n : Int))) hl8
        rcases h167 with rfl | rfl | rfl
        · have hm1 := hmade 1 (by simp [I64])
          have hf' : trPV (made (.mk 1 (Z7g (un8 (r.take 8))) [] []) 9) = _ := hf
          rw [hf', ← hun] at hm1
          refine Zo rfl rfl ?_
          repeat' first | ((with_reducible show V _ _ _ _ _ _); first | refine Z55 rfl (hloop _ _ rfl rfl rfl rfl h36 rfl) ?_ | refine Z3v hne rfl rfl ?_ | refine Z3v hlt rfl rfl ?_ | refine Z3 rfl ?_ | refine Zb rfl rfl ?_) | ((with_reducible show VO _ _ _ _ _ _ _); first | refine Z2c _ rfl rfl rfl rfl (hfl _) ?_ | refine Z0a rfl hQ ?_ | refine Z0a rfl hp ?_ | refine Zh rfl rfl hat ?_ | refine Z0 rfl ?_ | refine Z9 rfl ?_ | refine Z4 ?_)
          rintro x e' st' ⟨rfl, rfl, rfl⟩
          repeat' first | refine Z3 rfl ?_ | refine Zl rfl rfl ?_ | ((with_reducible show VO _ _ _ _ _ _ _); first | refine Z8 rfl rfl hm1 ?_ | refine Z0 rfl ?_ | refine Z9 rfl ?_ | refine Z4 ?_)
          rfl
        · have hm1 := hmade 6 (by simp [I64])
          have hf' : trPV (made (.mk 6 (Z7g (un8 (r.take 8))) [] []) 9) = _ := hf
          rw [hf', ← hun] at hm1
          refine Zo rfl rfl ?_
          repeat' first | ((with_reducible show V _ _ _ _ _ _); first | refine Z55 rfl (hloop _ _ rfl rfl rfl rfl h36 rfl) ?_ | refine Z3v hne rfl rfl ?_ | refine Z3v hlt rfl rfl ?_ | refine Z3 rfl ?_ | refine Zb rfl rfl ?_) | ((with_reducible show VO _ _ _ _ _ _ _); first | refine Z2c _ rfl rfl rfl rfl (hfl _) ?_ | refine Z0a rfl hQ ?_ | refine Z0a rfl hp ?_ | refine Zh rfl rfl hat ?_ | refine Z0 rfl ?_ | refine Z9 rfl ?_ | refine Z4 ?_)
          rintro x e' st' ⟨rfl, rfl, rfl⟩
          repeat' first | refine Z3 rfl ?_ | refine Zl rfl rfl ?_ | ((with_reducible show VO _ _ _ _ _ _ _); first | refine Z8 rfl rfl hm1 ?_ | refine Z0 rfl ?_ | refine Z9 rfl ?_ | refine Z4 ?_)
          rfl
        · have hm1 := hmade 7 (by simp [I64])
          have hf' : trPV (made (.mk 7 (Z7g (un8 (r.take 8))) [] []) 9) = _ := hf
          rw [hf', ← hun] at hm1
          refine Zo rfl rfl ?_
          repeat' first | ((with_reducible show V _ _ _ _ _ _); first | refine Z55 rfl (hloop _ _ rfl rfl rfl rfl h36 rfl) ?_ | refine Z3v hne rfl rfl ?_ | refine Z3v hlt rfl rfl ?_ | refine Z3 rfl ?_ | refine Zb rfl rfl ?_) | ((with_reducible show VO _ _ _ _ _ _ _); first | refine Z2c _ rfl rfl rfl rfl (hfl _) ?_ | refine Z0a rfl hQ ?_ | refine Z0a rfl hp ?_ | refine Zh rfl rfl hat ?_ | refine Z0 rfl ?_ | refine Z9 rfl ?_ | refine Z4 ?_)
          rintro x e' st' ⟨rfl, rfl, rfl⟩
          repeat' first | refine Z3 rfl ?_ | refine Zl rfl rfl ?_ | ((with_reducible show VO _ _ _ _ _ _ _); first | refine Z8 rfl rfl hm1 ?_ | refine Z0 rfl ?_ | refine Z9 rfl ?_ | refine Z4 ?_)
          rfl
    · have n1 : c ≠ 1 := fun e => h167 (.inl e)
      have n6 : c ≠ 6 := fun e => h167 (.inr (.inl e))
      have n7 : c ≠ 7 := fun e => h167 (.inr (.inr e))
      by_cases h3 : c = 3
      · subst h3
        cases r with
        | nil =>
          refine Zo rfl rfl ?_
          repeat' first | ((with_reducible show V _ _ _ _ _ _); first | refine Z3 rfl ?_ | refine Zb rfl rfl ?_ | refine Ze rfl rfl ?_ | refine Zl rfl rfl ?_) | ((with_reducible show VO _ _ _ _ _ _ _); first | refine Z0a rfl hp ?_ | refine Zh rfl rfl hat ?_ | refine Z8 rfl rfl (Z4c _) ?_ | refine Z0 rfl ?_ | refine Z9 rfl ?_ | refine Z4 ?_)
          rfl
        | cons d r =>
          have hlt : decide (((3 :: d :: r : List UInt8).length : Int) < 2) = false := decide_eq_false (by simp; omega)
          have hat1 := hp.at (n := 1) (b := d) (by omega) rfl
          have hwd : IntKind.i64.wrap (d.toNat : Int) = d.toNat := Z7f (by omega) (by have := d.toNat_lt; omega)
          have hm1 := run_made 3 (d.toNat : Int) [] 2 (by simp [I64]) (by have := d.toNat_lt; unfold I64; omega) (by simp)
          have ht : Z64 (3 :: d :: r) = made (.mk 3 d.toNat [] []) 2 := rfl
          obtain ⟨va, vb, vs, vm, vd, hf⟩ := Zac (made (.mk 3 d.toNat [] []) 2)
          rw [ht, hf]
          rw [hf, ← hwd] at hm1
          refine Zo rfl rfl ?_
          repeat' first | ((with_reducible show V _ _ _ _ _ _); first | refine Z3v hne rfl rfl ?_ | refine Z3 rfl ?_ | refine Zb rfl rfl ?_ | refine Zl rfl rfl ?_) | ((with_reducible show VO _ _ _ _ _ _ _); first | refine Z0a rfl hp ?_ | refine Zh rfl rfl hat ?_ | refine Zh rfl rfl hat1 ?_ | refine Z8 rfl rfl hm1 ?_ | refine Z0 rfl ?_ | refine Z9 rfl ?_ | refine Z4 ?_)
          rfl
      · by_cases h2 : c = 2
        · subst h2
          have hst := run_str hp hb
          have ht : Z64 (2 :: r) = Z7h r [] 1 := rfl
          obtain ⟨va, vb, vs, vm, vd, hf⟩ := Zac (Z7h r [] 1)
          rw [ht, hf]
          rw [hf] at hst
          refine Zo rfl rfl ?_
          repeat' first | ((with_reducible show V _ _ _ _ _ _); first | refine Z3v hne rfl rfl ?_ | refine Z3 rfl ?_ | refine Zb rfl rfl ?_ | refine Zl rfl rfl ?_) | ((with_reducible show VO _ _ _ _ _ _ _); first | refine Z0a rfl hp ?_ | refine Zh rfl rfl hat ?_ | refine Z8 rfl rfl hst ?_ | refine Z0 rfl ?_ | refine Z9 rfl ?_ | refine Z4 ?_)
          rfl
        · have ht : Z64 (c :: r) = .err 30 := by simp only [Z64]; rw [if_neg h167, if_neg h3, if_neg h2]
          rw [ht]
          refine Zo rfl rfl ?_
          repeat' first | ((with_reducible show V _ _ _ _ _ _); first | refine Z3v hne rfl rfl ?_ | refine Z3v (u8_eq (k := 1) (by omega) n1) rfl rfl ?_ | refine Z3v (u8_eq (k := 6) (by omega) n6) rfl rfl ?_ | refine Z3v (u8_eq (k := 7) (by omega) n7) rfl rfl ?_ | refine Z3v (u8_eq (k := 3) (by omega) h3) rfl rfl ?_ | refine Z3v (u8_eq (k := 2) (by omega) h2) rfl rfl ?_ | refine Z3 rfl ?_ | refine Zl rfl rfl ?_) | ((with_reducible show VO _ _ _ _ _ _ _); first | refine Z0a rfl hp ?_ | refine Zh rfl rfl hat ?_ | refine Z8 rfl rfl (Z4c _) ?_ | refine Z0 rfl ?_ | refine Z9 rfl ?_ | refine Z4 ?_)
          rfl
theorem strR_ok : ∀ (m : Nat) (r acc : List UInt8) (n : Nat) (v : Val) (k : Nat), r.length ≤ m → Z7h r acc n = .ok v k → n < k ∧ k ≤ n + r.length ∧ ∃ s, v = .mk 2 0 s [] ∧ s.length ≤ acc.length + r.length := by
  intro m
  induction m with
  | zero =>
    intro r acc n v k hm h
    have : r = [] := List.length_eq_zero_iff.1 (by omega)
    subst this
    cases h
  | succ m ih =>
    intro r acc n v k hm h
    match r, hm, h with
    | [], hm, h => cases h
    | [b], hm, h => simp [Z7h] at h
    | b :: c :: r, hm, h =>
      unfold Z7h at h
      split at h
      · split at h
        · unfold made at h
          split at h
          · injection h with h1 h2
            subst h1 h2
            exact ⟨by omega, by simp, acc, rfl, by simp⟩
          · cases h
        · split at h
          · obtain ⟨h1, h2, s, h3, h4⟩ := ih r _ _ v k (by simp at hm; omega) h
            exact ⟨by omega, by simp; omega, s, h3, by simp at h4 ⊢; omega⟩
          · cases h
      · obtain ⟨h1, h2, s, h3, h4⟩ := ih (c :: r) _ _ v k (by simp at hm ⊢; omega) h
        exact ⟨by omega, by simp at h2 ⊢; omega, s, h3, by simp at h4 ⊢; omega⟩
theorem made_ok {w v : Val} {m n : Nat} (h : made w m = .ok v n) : v = w ∧ n = m := by
  unfold made at h
  split at h
  · injection h with h1 h2; exact ⟨h1.symm, h2.symm⟩
  · cases h
theorem take_ok {b : List UInt8} {v : Val} {n : Nat} (h : Z64 b = .ok v n) (hb : b.length ≤ 1073741824) : 1 ≤ n ∧ n ≤ b.length ∧ ∃ k m s, v = .mk k m s [] ∧ I64 k ∧ I64 m ∧ s.length ≤ 1073741824 := by
  cases b with
  | nil => cases h
  | cons c r =>
    have hc := c.toNat_lt
    simp only [Z64] at h
    split at h
    · split at h
      · cases h
      · rename_i h8
        obtain ⟨rfl, rfl⟩ := made_ok h
        have hu := un8_lt (r.take 8)
        have hl8 : (r.take 8).length = 8 := by simp; omega
        rw [hl8, p256] at hu
        exact ⟨by omega, by simp; omega, _, _, _, rfl, by unfold I64; omega, i64_ord _ hu, by simp⟩
    · split at h
      · cases r with
        | nil => cases h
        | cons d r =>
          have hd := d.toNat_lt
          obtain ⟨rfl, rfl⟩ := made_ok h
          exact ⟨by omega, by simp, _, _, _, rfl, by simp [I64], by unfold I64; omega, by simp⟩
      · split at h
        · obtain ⟨h1, h2, s, rfl, h4⟩ := strR_ok r.length r [] 1 v n (Nat.le_refl _) h
          exact ⟨by omega, by simp; omega, _, _, _, rfl, by simp [I64], by simp [I64], by simp at h4 hb; omega⟩
        · cases h
theorem strR_err0 : ∀ (m : Nat) (r acc : List UInt8) (n : Nat), r.length ≤ m → Z7h r acc n ≠ .err 0 := by
  intro m
  induction m with
  | zero =>
    intro r acc n hm h
    have : r = [] := List.length_eq_zero_iff.1 (by omega)
    subst this
    injection h with h; cases h
  | succ m ih =>
    intro r acc n hm h
    match r, hm, h with
    | [], hm, h => injection h with h; cases h
    | [b], hm, h => simp [Z7h] at h
    | b :: c :: r, hm, h =>
      unfold Z7h at h
      split at h
      · split at h
        · unfold made at h
          split at h
          · cases h
          · injection h with h; cases h
        · split at h
          · exact ih r _ _ (by simp at hm; omega) h
          · injection h with h; cases h
      · exact ih (c :: r) _ _ (by simp at hm ⊢; omega) h
theorem made_err0 (w : Val) (m : Nat) : made w m ≠ .err 0 := fun h => by
  unfold made at h
  split at h
  · cases h
  · injection h with h; cases h
theorem take_err0 (b : List UInt8) : Z64 b ≠ .err 0 := fun h => by
  cases b with
  | nil => injection h with h; cases h
  | cons c r =>
    simp only [Z64] at h
    split at h
    · split at h
      · injection h with h; cases h
      · exact made_err0 _ _ h
    · split at h
      · cases r with
        | nil => injection h with h; cases h
        | cons d r => exact made_err0 _ _ h
      · split at h
        · exact strR_err0 _ _ _ _ (Nat.le_refl _) h
        · injection h with h; cases h
theorem decN_le : ∀ (m i : Nat) (b : List UInt8) (u n : Nat), Zfv m i b = .ok u n → n ≤ b.length
  | 0, i, b, u, n, h => by cases h
  | m + 1, i, [], u, n, h => by cases h
  | m + 1, i, c :: r, u, n, h => by
    simp only [Zfv] at h
    split at h
    · cases hd : Zfv m (i + 1) r with
      | ends => rw [hd] at h; cases h
      | form => rw [hd] at h; cases h
      | ok u' n' =>
        rw [hd] at h
        injection h with h1 h2
        have := decN_le m (i + 1) r u' n' hd
        simp only [List.length_cons]
        omega
    · split at h
      · cases h
      · injection h with h1 h2
        simp only [List.length_cons]
        omega
theorem decN_lt : ∀ (m i : Nat) (b : List UInt8) (u n : Nat), m + i = 10 → Zfv m i b = .ok u n → u < 2 * 128 ^ (9 - i)
  | 0, i, b, u, n, _, h => by cases h
  | m + 1, i, [], u, n, _, h => by cases h
  | m + 1, i, c :: r, u, n, hm, h => by
    have hc := c.toNat_lt
    simp only [Zfv] at h
    split at h
    · cases hd : Zfv m (i + 1) r with
      | ends => rw [hd] at h; cases h
      | form => rw [hd] at h; cases h
      | ok u' n' =>
        rw [hd] at h
        injection h with h1 h2
        have := decN_lt m (i + 1) r u' n' (by omega) hd
        by_cases h9 : i = 9
        · subst h9
          have : m = 0 := by omega
          subst this
          cases hd
        · have h3 : 9 - i = (9 - (i + 1)) + 1 := by omega
          rw [h3, Nat.pow_succ]
          omega
    · split at h
      · cases h
      · rename_i hn
        injection h with h1 h2
        by_cases h9 : i = 9
        · subst h9
          simp at hn ⊢
          omega
        · have h3 : 128 ^ 1 ≤ 128 ^ (9 - i) := Nat.pow_le_pow_right (by omega) (by omega)
          omega
theorem decN_u64 {b : List UInt8} {u n : Nat} (h : Zfv 10 0 b = .ok u n) : u < 18446744073709551616 := by
  have := decN_lt 10 0 b u n rfl h
  have h9 : (128 : Nat) ^ 9 = 9223372036854775808 := by decide
  rw [show 9 - 0 = 9 from rfl, h9] at this
  omega
theorem Zef {e : EC} {look : Nat → Option Tok} {t a b c n : Nat} {cs : List PV} {x y : PV} (ha : e.get a = some (.ptr t 0)) (hg : look t = some (.var cs)) (hl : cs.length = n) (hb : e.get b = some x) (hc : e.get c = some y) : resG e look [.cell a n true, .tmp b, .tmp c] = some (.tuple [.agg cs, x, y]) := by
  have hld : loadAt look n true (.ptr t 0) = some (.agg cs) := by
    simp only [loadAt, behind, hg, Option.bind_some]
    rw [← hl]
    simp [slice?]
  simp [resG, resGs, resG1, ha, hb, hc, hld]
def RowOf (l : List Val) (xs : List (List PV)) : Prop := xs.length = l.length ∧ ∀ (j : Nat) (v : Val) (cs : List PV), l[j]? = some v → xs[j]? = some cs → VC v cs
theorem RowOf.snoc {l : List Val} {xs : List (List PV)} {v : Val} {cs : List PV} (h : RowOf l xs) (hv : VC v cs) : RowOf (l ++ [v]) (xs ++ [cs]) := by
  refine ⟨by simp [h.1], fun j w ds hj hd => ?_⟩
  by_cases hjl : j < l.length
  · rw [List.getElem?_append_left hjl] at hj
    rw [List.getElem?_append_left (by rw [h.1]; exact hjl)] at hd
    exact h.2 j w ds hj hd
  · rw [List.getElem?_append_right (by omega)] at hj
    rw [List.getElem?_append_right (by rw [h.1]; omega), h.1] at hd
    have h0 : j - l.length = 0 := by
      have := (List.getElem?_eq_some_iff.1 hj).1
      simp at this
      omega
    rw [h0] at hj hd
    injection hj with hj
    injection hd with hd
    subst hj hd
    exact hv
theorem AccT.cells {sz : Nat} {st : St} {v : PV} {es : List (List PV)} (h : AccT sz st v es) : v.cells = [v] ∧ PV.one v = true := by
  rcases h with ⟨rfl, _⟩ | ⟨t, g, rfl, _⟩ <;> exact ⟨rfl, rfl⟩
theorem AccT.put {sz : Nat} {st : St} {v : PV} {es : List (List PV)} (h : AccT sz st v es) {t : Nat} (ht : Z0n v ≠ some t) (k : Tok) : AccT sz (st.put t k) v es := by
  rcases h with h | ⟨u, g, rfl, hg, hlt⟩
  · exact .inl h
  · refine .inr ⟨u, g, rfl, ?_, hlt⟩
    rw [St.get_put_old (fun e => ht (by rw [e]; rfl))]
    exact hg
def LS (k : Int) (st : St) (v : PV) (xs : List (List PV)) : Prop := AccT 4 st v xs ∧ 2 ≤ st.next ∧ st.get 0 = some (.var [.int .i64 k, .int .i64 0, .str [], v]) ∧ (∃ a b c d, st.get 1 = some (.var [a, b, c, d])) ∧ Z0n v ≠ some 0 ∧ Z0n v ≠ some 1
theorem LS.var {k : Int} {st : St} {v : PV} {xs : List (List PV)} (h : LS k st v xs) (z cs : List PV) : LS k ((st.new (.var z)).put st.next (.var cs)) v xs := by
  obtain ⟨h1, h2, h3, ⟨a, b, c, d, h4⟩, h5, h6⟩ := h
  have hlt : ∀ u, u < st.next → ((st.new (.var z)).put st.next (.var cs)).get u = st.get u := fun u hu => by rw [St.get_put_old (by omega), St.get_new_old hu]
  refine ⟨?_, by simp [St.new, St.put]; omega, by rw [hlt 0 (by omega)]; exact h3, ⟨a, b, c, d, by rw [hlt 1 (by omega)]; exact h4⟩, h5, h6⟩
  rcases h1 with h | ⟨t, g, rfl, hg, hl⟩
  · exact .inl h
  · exact .inr ⟨t, g, rfl, by rw [hlt t hl]; exact hg, by simp [St.new, St.put]; omega⟩
theorem LS.grow {k : Int} {st : St} {v : PV} {xs : List (List PV)} (h : LS k st v xs) (cs : List PV) (hr : (xs.length + 1) * 56 ≤ Zs) : ∃ v' st', Z0b st 4 56 v [cs] = some (v', st') ∧ st'.get 0 = some (.var [.int .i64 k, .int .i64 0, .str [], v]) ∧ v'.cells = [v'] ∧ PV.one v' = true ∧ LS k (st'.put 0 (.var [.int .i64 k, .int .i64 0, .str [], v'])) v' (xs ++ [cs]) := by
  obtain ⟨h1, h2, h3, ⟨a, b, c, d, h4⟩, h5, h6⟩ := h
  obtain ⟨v', st', k1, k2, k3⟩ := h1.grow (bytes := 56) (src := [cs]) (by simp) (by simpa using hr)
  have hn := k3.2.1
  have t0 : ∀ u, u < 2 → Z0n v ≠ some u → Z0n v' ≠ some u := fun u hu hv => by
    rcases k3.2.2.1 with h | ⟨m, h, hm⟩
    · rw [h]; exact hv
    · rw [h]; intro e; injection e; omega
  refine ⟨v', st', k1, by rw [k3.2.2.2 0 (by omega) h5]; exact h3, (AccT.cells k2).1, (AccT.cells k2).2, AccT.put k2 (t0 0 (by omega) h5) _, by simp [St.put]; omega, St.get_put, ⟨a, b, c, d, by rw [St.get_put_old (by omega), k3.2.2.2 1 (by omega) h6]; exact h4⟩, t0 0 (by omega) h5, t0 1 (by omega) h6⟩
theorem LS.res {k : Int} {st : St} {v : PV} {l : List Val} {xs : List (List PV)} (h : LS k st v xs) (hR : RowOf l xs) (hx : xs.length ≤ 512) : ∃ q, LC l q ∧ View true st.get v q ∧ Pl q := by
  rcases h.1 with ⟨rfl, h0⟩ | ⟨t, g, rfl, hg, _⟩
  · have hl : l = [] := by
      have := hR.1
      rw [h0] at this
      exact List.length_eq_zero_iff.1 this.symm
    exact ⟨.nilSl, .inl ⟨rfl, hl⟩, .nilSl, .nilSl⟩
  · have hLC : LC l (.sl xs false) := .inr ⟨xs, false, rfl, by rw [← hR.1]; omega, hR.1, hR.2⟩
    refine ⟨.sl xs false, hLC, Z4n hg (.inl rfl) rfl (fun cs hcs c hc => ?_), hLC.pl⟩
    obtain ⟨j, hj⟩ := List.getElem?_of_mem hcs
    have hlt : j < l.length := by have := (List.getElem?_eq_some_iff.1 hj).1; rw [hR.1] at this; exact this
    exact (hR.2 j l[j] cs (List.getElem?_eq_getElem hlt) hj).pl c hc
end Go.Proofs.YtgdjnlopdpjnaaaDoor

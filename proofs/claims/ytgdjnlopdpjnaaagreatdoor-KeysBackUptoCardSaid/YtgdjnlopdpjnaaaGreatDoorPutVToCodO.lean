/- codec.put, codec.Put. · codec.put, texts too. · rambleref03.takeStr, codec.str. · codec.Take, rambleref03.Take. · codec.Values. -/
import Derived.Test.YtgdjnlopdpjnaaaGreatDoorValHToCodK
import Derived.Test.YtgdjnlopdpjnaaaGreatDoorBytesToOrd
import Derived.Test.YtgdjnlopdpjnaaaGreatDoorAmZ
set_option linter.unusedVariables false
set_option linter.unusedSimpArgs false
namespace Go.Proofs.YtgdjnlopdpjnaaaGreatDoor
open Go Go.AM Go.RowKit
def zigN (n : Int) : Nat := if n < 0 then (-2 * n - 1).toNat else (2 * n).toNat
mutual
def Z6s : Val → List UInt8
  | .mk k n s l => UInt8.ofNat (k % 256).toNat :: (if k = 1 then Z8b 9 (zigN n) else if k = 6 ∨ k = 7 then Z8b 9 (n % 18446744073709551616).toNat else if k = 3 then [UInt8.ofNat (n % 256).toNat] else if k = 2 then Z8b 9 s.length ++ s else Z8b 9 l.length ++ Z8a l)
def Z8a : List Val → List UInt8
  | [] => []
  | v :: l => Z6s v ++ Z8a l
end
theorem zig_val {n : Int} (h : I64 n) : IntKind.u64.wrap ((BitVec.ofInt 64 (IntKind.u64.wrap (IntKind.u64.wrap n * 2 ^ (min (1 : Int).toNat IntKind.u64.bits))) ^^^ BitVec.ofInt 64 (IntKind.u64.wrap (n.fdiv (2 ^ (min (63 : Int).toNat IntKind.i64.bits))))).toNat : Int) = (zigN n : Int) := by
  obtain ⟨h1, h2⟩ := h
  have e1 : (2 : Int) ^ (min (1 : Int).toNat IntKind.u64.bits) = 2 := rfl
  have e2 : (2 : Int) ^ (min (63 : Int).toNat IntKind.i64.bits) = 9223372036854775808 := rfl
  rw [e1, e2]
  by_cases hn : n < 0
  · have a : IntKind.u64.wrap (IntKind.u64.wrap n * 2) = ((2 * n + 18446744073709551616).toNat : Int) := by rw [Z0t, Z0t]; omega
    have b : IntKind.u64.wrap (n.fdiv 9223372036854775808) = 18446744073709551615 := by rw [Z0t, Int.fdiv_eq_ediv_of_nonneg _ (by omega)]; omega
    rw [a, b]
    have c : BitVec.ofInt 64 18446744073709551615 = BitVec.allOnes 64 := rfl
    rw [c, BitVec.xor_allOnes, BitVec.toNat_not, BitVec.ofInt_natCast, BitVec.toNat_ofNat, Z0t]
    unfold zigN
    rw [if_pos hn]
    omega
  · have a : IntKind.u64.wrap (IntKind.u64.wrap n * 2) = ((2 * n).toNat : Int) := by rw [Z0t, Z0t]; omega
    have b : IntKind.u64.wrap (n.fdiv 9223372036854775808) = 0 := by rw [Z0t, Int.fdiv_eq_ediv_of_nonneg _ (by omega)]; omega
    rw [a, b]
    have c : BitVec.ofInt 64 0 = 0#64 := rfl
    rw [c, BitVec.xor_zero, BitVec.ofInt_natCast, BitVec.toNat_ofNat, Z0t]
    unfold zigN
    rw [if_neg hn]
    omega
theorem run_Zig {n : Int} (h : I64 n) : T.R (.call n_num_Zig [.int .i64 n] (.int .u64 (zigN n))) := by
  have hz := zig_val h
  refine Zd rfl rfl ?_
  repeat' first | refine Z1 rfl ?_ | refine Zc rfl rfl ?_ | refine Z0 rfl ?_ | refine Z2 ?_
  rw [← hz]
  rfl
theorem AccT_new {sz : Nat} {st : St} {v : PV} {es : List (List PV)} (h : AccT sz st v es) (k : Tok) : AccT sz (st.new k) v es := by
  rcases h with h | ⟨t, g, rfl, hg, hlt⟩
  · exact .inl h
  · exact .inr ⟨t, g, rfl, by rw [St.get_new_old hlt]; exact hg, by simp [St.new]; omega⟩
theorem Zhh (st : St) (v : PV) (k : Tok) : Grow st v (st.new k) v := ⟨rfl, by simp [St.new], .inl rfl, fun u hu _ => St.get_new_old hu⟩
theorem AccT_lt {sz : Nat} {st : St} {v : PV} {es : List (List PV)} (h : AccT sz st v es) {t : Nat} (ht : Z0q v = some t) : t < st.next := by
  rcases h with ⟨rfl, _⟩ | ⟨t, g, rfl, hg, hlt⟩
  · cases ht
  · injection ht with ht; omega
theorem Grow_nil {st st' : St} {v v' : PV} {es : List (List PV)} (h : Grow st .nilSl st' v') (ha : AccT 1 st' v' es) (hne : es ≠ []) : Grow st v st' v' := by
  obtain ⟨n, h1, h2⟩ := AccT.none_fresh h ha hne
  exact ⟨h.1, h.2.1, .inr ⟨n, h1, h2⟩, fun u hu _ => h.2.2.2 u hu (by simp [Z0q])⟩
theorem putL_ne : ∀ n u, Z8b n u ≠ []
  | 0, u => by simp [Z8b]
  | n + 1, u => by unfold Z8b; split <;> simp
theorem putV_pos (v : Val) : Z6s v ≠ [] := by obtain ⟨k, n, s, l⟩ := v; simp [Z6s]
def PutOk (v : Val) (cs : List PV) : Prop := ∀ (st : St) (b : PV) (s : List UInt8), st.base = st.next → AccT 1 st b (Z5 s) → s.length + (Z6s v).length ≤ 100000000000000 → ∃ b' st', T.R (.raw n_codec_put [b, .agg cs] st b' st') ∧ AccT 1 st' b' (Z5 (s ++ Z6s v)) ∧ Grow st b st' b'
def putsP (st : St) (v : PV) (bs : List UInt8) : EX → EC → St → Prop := fun x e' st' => x = .exit 1 ∧ ∃ v', e' = .put 0 v' .nil ∧ AccT 1 st' v' (Z5 bs) ∧ Grow st v st' v'
theorem puts_loop (l : List Val) (p : PV) (hp : LC l p) (ih : ∀ (j : Nat) (v : Val) (cs : List PV), l[j]? = some v → At 4 p j cs → PutOk v cs) :
    ∀ (rest pre : List Val) (e : EC) (st : St) (v : PV) (s : List UInt8), l = pre ++ rest → AccT 1 st v (Z5 s) → s.length + (Z8a rest).length ≤ 100000000000000 → e.get 0 = some v → e.get 56 = some p → e.get 57 = some (.int .i64 l.length) → e.get 58 = some (.int .i64 pre.length) →
    V T (PE (putsP st v (s ++ Z8a rest))) [.code (.loop Z7j)] .normal e st := by
  obtain ⟨lp1, lp2, lp3⟩ := hp.len
  intro rest
  induction rest with
  | nil =>
    intro pre e st v s hl hA hs h0 h56 h57 h58
    have hlt : decide ((pre.length : Int) < l.length) = false := decide_eq_false (by subst hl; simp)
    have out : ∀ (fr : List Fr) (x : EX) (e' : EC), Zm 200 fr x = ([], .exit 1) → e'.get 0 = some v → V T (PE (putsP st v (s ++ Z8a []))) fr x e' st := fun fr x e' hadv g0 =>
      Zn (.put 0 v .nil) (Z3 g0 Zp) (Z18 hadv ⟨rfl, v, rfl, by simpa [Z8a] using hA, .refl _ _⟩)
    refine Zn (.put 0 _ (.put 56 p (.put 57 _ (.put 58 _ .nil)))) (Z3 h0 (Z3 h56 (Z3 h57 (Z3 h58 Zp)))) (Zi ?_)
    repeat' first | refine Z2t hlt rfl rfl ?_ | refine Z1 rfl ?_ | refine Z0 rfl ?_ | refine Z2 ?_ | refine out _ _ _ rfl rfl
  | cons v0 rest ihr =>
    intro pre e st v s hl hA hs h0 h56 h57 h58
    have hlt : decide ((pre.length : Int) < l.length) = true := decide_eq_true (by subst hl; simp; omega)
    have hpl : pre.length + 1 ≤ l.length := by subst hl; simp
    have hv0 : l[pre.length]? = some v0 := by subst hl; simp
    obtain ⟨cs, hat, vc⟩ := hp.at hv0
    have hok := ih _ v0 cs hv0 hat
    have hsum : Z8a (v0 :: rest) = Z6s v0 ++ Z8a rest := rfl
    have hz : ([.int .i64 0, .int .i64 0, .str [], .nilSl] : List PV).length = cs.length := by rw [vc.len4]; rfl
    have hA1 : AccT 1 ((st.new (.var [.int .i64 0, .int .i64 0, .str [], .nilSl])).put st.next (.var cs)) v (Z5 s) := by
      rcases hA with h | ⟨t, g, rfl, hg, hlt⟩
      · exact .inl h
      · exact .inr ⟨t, g, rfl, by rw [St.get_put_old (by omega), St.get_new_old hlt]; exact hg, by simp [St.new, St.put]; omega⟩
    have hG1 : Grow st v ((st.new (.var [.int .i64 0, .int .i64 0, .str [], .nilSl])).put st.next (.var cs)) v := ⟨rfl, by simp [St.new, St.put], .inl rfl, fun u hu _ => by rw [St.get_put_old (by omega), St.get_new_old hu]⟩
    generalize hS : (st.new (.var [.int .i64 0, .int .i64 0, .str [], .nilSl])).put st.next (.var cs) = S at hA1 hG1
    have hgS : S.get st.next = some (.var cs) := by rw [← hS]; exact St.get_put
    obtain ⟨b', st', k1, k2, k3⟩ := hok ⟨S.next, S.next, S.toks⟩ v s rfl hA1 (by rw [hsum, List.length_append] at hs; omega)
    have hA2 : AccT 1 ⟨S.base, st'.next, st'.toks⟩ b' (Z5 (s ++ Z6s v0)) := k2
    have hG2 : Grow S v ⟨S.base, st'.next, st'.toks⟩ b' := ⟨rfl, k3.2.1, k3.2.2.1, k3.2.2.2⟩
    have hw : IntKind.i64.wrap ((pre.length : Int) + 1) = ((pre ++ [v0]).length : Int) := by rw [Z03]; simp; omega
    have fin : ∀ (fr : List Fr) (x : EX) (e' : EC), Zm 200 fr x = ([.code (.loop Z7j)], .normal) → e'.get 0 = some b' → e'.get 56 = some p → e'.get 57 = some (.int .i64 l.length) → e'.get 58 = some (.int .i64 (IntKind.i64.wrap ((pre.length : Int) + 1))) → V T (PE (putsP st v (s ++ Z8a (v0 :: rest)))) fr x e' ⟨S.base, st'.next, st'.toks⟩ := fun fr x e' hadv g0 g56 g57 g58 => Z34 hadv (by
      rw [hw] at g58
      refine Z8q (ihr (pre ++ [v0]) e' _ b' (s ++ Z6s v0) (by rw [hl]; simp) hA2 (by rw [hsum, List.length_append] at hs; simp; omega) g0 g56 g57 g58) ?_
      rintro x e2 st2 ⟨hx, v2, he, hA3, hG3⟩
      refine ⟨hx, v2, he, ?_, hG1.trans (hG2.trans hG3)⟩
      rw [hsum, ← List.append_assoc]
      exact hA3)
    refine Zn (.put 0 _ (.put 56 p (.put 57 _ (.put 58 _ .nil)))) (Z3 h0 (Z3 h56 (Z3 h57 (Z3 h58 Zp)))) (Zi ?_)
    clear ihr ih
    repeat' first | refine Z22 hlt rfl rfl ?_ | refine Z1 rfl ?_ | ((with_reducible show VO _ _ _ _ _ _ _); first | refine Zq rfl rfl hat ?_ | refine Zjc rfl vc.len4 ?_ | refine Ze (st' := S) rfl rfl vc.one vc.len4 rfl (by rw [← hS]; exact Z01 St.get_new hz) ?_ | refine Z0e rfl hgS vc.len4 ?_ | refine Z0j k1 k3.1 rfl rfl ?_ | refine Z0 rfl ?_ | refine Z8 rfl ?_ | refine Z2 ?_) | refine fin _ _ _ rfl rfl rfl rfl rfl
theorem wrap8' (n : Int) : [[PV.int .u8 (IntKind.u8.wrap n)]] = Z5 [UInt8.ofNat (n % 256).toNat] := by
  rw [Zc0]
  have h1 : n % 256 = (((n % 256).toNat : Nat) : Int) := by omega
  have h2 : (n % 256).toNat < 256 := by omega
  simp [Z5]
  omega
theorem I64.nat {n : Int} (h : I64 n) : IntKind.u64.wrap n = ((n % 18446744073709551616).toNat : Int) := by rw [Z0t]; omega
set_option maxHeartbeats 4000000 in
theorem put_step (k n : Int) (s : List UInt8) (l : List Val) (p : PV) (hk : I64 k) (hn : I64 n) (hs : s.length ≤ 140737488355328) (hp : LC l p) (hk2 : k ≠ 2) (ih : ∀ (j : Nat) (v : Val) (cs : List PV), l[j]? = some v → At 4 p j cs → PutOk v cs) : PutOk (.mk k n s l) [.int .i64 k, .int .i64 n, .str s, p] := by
  intro st b bs hbn hA hlen
  obtain ⟨lp1, lp2, lp3⟩ := hp.len
  have plp := hp.pl
  obtain ⟨kb, hkd⟩ : ∃ kb, UInt8.ofNat (k % 256).toNat = kb := ⟨_, rfl⟩
  have hkb := wrap8' k
  rw [hkd] at hkb
  have hA1 := AccT_new hA (.var [.int .i64 k, .int .i64 n, .str s, p])
  have hG1 := Zhh st b (.var [.int .i64 k, .int .i64 n, .str s, p])
  have hg1 : (st.new (.var [.int .i64 k, .int .i64 n, .str s, p])).get st.next = some (.var [.int .i64 k, .int .i64 n, .str s, p]) := St.get_new
  have hnx : (st.new (.var [.int .i64 k, .int .i64 n, .str s, p])).next = st.next + 1 := rfl
  have hbt : Z0q b ≠ some st.next := fun h => by have := AccT_lt hA h; omega
  generalize hS : st.new (.var [.int .i64 k, .int .i64 n, .str s, p]) = S1 at hA1 hG1 hg1 hnx
  have hl1 : bs.length + 1 ≤ 100000000000000 := by simp [Z6s] at hlen; omega
  obtain ⟨v2, S2, k1, hA2, hG2⟩ := hA1.grow (bytes := 1) (src := Z5 [kb]) (by simp [Z5]) (by simp only [Z02, Z06]; simp; omega)
  rw [← Z0f] at hA2
  have hg2 : S2.get st.next = some (.var [.int .i64 k, .int .i64 n, .str s, p]) := by rw [hG2.2.2.2 st.next (by omega) hbt]; exact hg1
  have hG02 := hG1.trans hG2
  have hrb2 : RB ⟨S2.next, S2.next, S2.toks⟩ v2 (bs ++ [kb]) := (AccT.rb (st := S2) hA2).keep (Nat.le_refl _) (fun _ _ => rfl)
  have num : ∀ u : Nat, u < 18446744073709551616 → ∃ v3 S3, T.R (.raw n_num_Put [v2, .int .u64 u] ⟨S2.next, S2.next, S2.toks⟩ v3 S3) ∧ S3.base = S2.next ∧ AccT 1 ⟨S2.base, S3.next, S3.toks⟩ v3 (Z5 (bs ++ [kb] ++ Z8b 9 u)) ∧ Grow st b ⟨S2.base, S3.next, S3.toks⟩ v3 ∧ (∀ t, t < S2.next → (⟨S2.base, S3.next, S3.toks⟩ : St).get t = S2.get t) := fun u hu => by
    obtain ⟨v3, S3, h1, h2, h3⟩ := putG (st := ⟨S2.next, S2.next, S2.toks⟩) rfl hrb2 (by simp; omega) u hu
    refine ⟨v3, S3, h1, h3.1, h2, hG02.trans (Grow_nil (st' := ⟨S2.base, S3.next, S3.toks⟩) ⟨rfl, h3.2.1, h3.2.2.1, h3.2.2.2⟩ h2 ?_), fun t ht => h3.2.2.2 t ht (by simp [Z0q])⟩
    simp [Z5, putL_ne]
  by_cases hk1 : k = 1
  · subst hk1
    obtain ⟨v3, S3, h1, h2, h3, h4, h5⟩ := num (zigN n) (by unfold zigN; obtain ⟨a, b⟩ := hn; split <;> omega)
    have hz := run_Zig hn
    have hpv : Z6s (.mk 1 n s l) = kb :: Z8b 9 (zigN n) := by simp only [Z6s, hkd]; simp
    refine Z1f rfl rfl ?_
    repeat' first | ((with_reducible show V _ _ _ _ _ _); first | refine Z08 rfl rfl ?_ | refine Z1 rfl ?_ | refine Za rfl rfl ?_) | ((with_reducible show VO _ _ _ _ _ _ _); first | refine Z04 (src := Z5 [kb]) rfl rfl (by rw [← hkb]; rfl) (Z00 _) (by decide) (by decide) (by subst hS; exact k1) ?_ | refine Zr rfl St.get_new rfl ?_ | refine Zr rfl hg2 rfl ?_ | refine Z7 rfl rfl hz ?_ | refine Z0j h1 h2 rfl rfl ?_ | refine Z0 rfl ?_ | refine Z8 rfl ?_ | refine Z2 ?_)
    rw [hpv, List.append_cons]
    exact ⟨h3, h4⟩
  by_cases hk6 : k = 6
  · subst hk6
    obtain ⟨v3, S3, h1, h2, h3, h4, h5⟩ := num (n % 18446744073709551616).toNat (by omega)
    rw [← hn.nat] at h1
    have hpv : Z6s (.mk 6 n s l) = kb :: Z8b 9 (n % 18446744073709551616).toNat := by simp only [Z6s, hkd]; simp
    refine Z1f rfl rfl ?_
    repeat' first | ((with_reducible show V _ _ _ _ _ _); first | refine Z08 rfl rfl ?_ | refine Z1 rfl ?_ | refine Za rfl rfl ?_ | refine Zb rfl rfl ?_) | ((with_reducible show VO _ _ _ _ _ _ _); first | refine Z04 (src := Z5 [kb]) rfl rfl (by rw [← hkb]; rfl) (Z00 _) (by decide) (by decide) (by subst hS; exact k1) ?_ | refine Zr rfl St.get_new rfl ?_ | refine Zr rfl hg2 rfl ?_ | refine Z0j h1 h2 rfl rfl ?_ | refine Z0 rfl ?_ | refine Z8 rfl ?_ | refine Z2 ?_)
    rw [hpv, List.append_cons]
    exact ⟨h3, h4⟩
  by_cases hk7 : k = 7
  · subst hk7
    obtain ⟨v3, S3, h1, h2, h3, h4, h5⟩ := num (n % 18446744073709551616).toNat (by omega)
    rw [← hn.nat] at h1
    have hpv : Z6s (.mk 7 n s l) = kb :: Z8b 9 (n % 18446744073709551616).toNat := by simp only [Z6s, hkd]; simp
    refine Z1f rfl rfl ?_
    repeat' first | ((with_reducible show V _ _ _ _ _ _); first | refine Z08 rfl rfl ?_ | refine Z1 rfl ?_ | refine Za rfl rfl ?_ | refine Zb rfl rfl ?_) | ((with_reducible show VO _ _ _ _ _ _ _); first | refine Z04 (src := Z5 [kb]) rfl rfl (by rw [← hkb]; rfl) (Z00 _) (by decide) (by decide) (by subst hS; exact k1) ?_ | refine Zr rfl St.get_new rfl ?_ | refine Zr rfl hg2 rfl ?_ | refine Z0j h1 h2 rfl rfl ?_ | refine Z0 rfl ?_ | refine Z8 rfl ?_ | refine Z2 ?_)
    rw [hpv, List.append_cons]
    exact ⟨h3, h4⟩
  by_cases hk3 : k = 3
  · subst hk3
    obtain ⟨v3, S3, k4, h3, h4⟩ := hA2.grow (bytes := 1) (src := Z5 [UInt8.ofNat (n % 256).toNat]) (by simp [Z5]) (by simp only [Z02, Z06]; simp; omega)
    rw [← Z0f] at h3
    have hpv : Z6s (.mk 3 n s l) = kb :: [UInt8.ofNat (n % 256).toNat] := by simp only [Z6s, hkd]; simp
    refine Z1f rfl rfl ?_
    repeat' first | ((with_reducible show V _ _ _ _ _ _); first | refine Z08 rfl rfl ?_ | refine Z1 rfl ?_ | refine Za rfl rfl ?_ | refine Zb rfl rfl ?_) | ((with_reducible show VO _ _ _ _ _ _ _); first | refine Z04 (src := Z5 [kb]) rfl rfl (by rw [← hkb]; rfl) (Z00 _) (by decide) (by decide) (by subst hS; exact k1) ?_ | refine Zr rfl St.get_new rfl ?_ | refine Zr rfl hg2 rfl ?_ | refine Z04 (src := Z5 [UInt8.ofNat (n % 256).toNat]) rfl rfl (by rw [← wrap8' n]; rfl) (Z00 _) (by decide) (by decide) k4 ?_ | refine Z0 rfl ?_ | refine Z8 rfl ?_ | refine Z2 ?_)
    rw [hpv, List.append_cons]
    exact ⟨h3, hG02.trans h4⟩
  · obtain ⟨v3, S3, h1, h2, h3, h4, h5⟩ := num l.length (by omega)
    have hwl : IntKind.u64.wrap (l.length : Int) = (l.length : Int) := by rw [Z0t]; omega
    rw [← hwl] at h1
    have hpv : Z6s (.mk k n s l) = kb :: (Z8b 9 l.length ++ Z8a l) := by simp only [Z6s, hkd]; simp [hk1, hk6, hk7, hk3, hk2]
    have hg3 : (⟨S2.base, S3.next, S3.toks⟩ : St).get st.next = some (.var [.int .i64 k, .int .i64 n, .str s, p]) := by
      have hlt2 : st.next < S2.next := by have := hG2.2.1; omega
      rw [h5 st.next hlt2]
      exact hg2
    have hloop := fun e h0 h56 h57 h58 => puts_loop l p hp ih l [] e ⟨S2.base, S3.next, S3.toks⟩ v3 (bs ++ [kb] ++ Z8b 9 l.length) rfl h3 (by rw [hpv] at hlen; simp at hlen ⊢; omega) h0 h56 h57 h58
    refine Z1f rfl rfl ?_
    repeat' first | ((with_reducible show V _ _ _ _ _ _); first | refine Z2t (decide_eq_false hk1) rfl rfl ?_ | refine Z2t (decide_eq_false hk6) rfl rfl ?_ | refine Z2t (decide_eq_false hk7) rfl rfl ?_ | refine Z2t (decide_eq_false hk3) rfl rfl ?_ | refine Z2t (decide_eq_false hk2) rfl rfl ?_ | refine Z3r rfl (hloop _ rfl rfl rfl rfl) ?_ | refine Z1 rfl ?_) | ((with_reducible show VO _ _ _ _ _ _ _); first | refine Z04 (src := Z5 [kb]) rfl rfl (by rw [← hkb]; rfl) (Z00 _) (by decide) (by decide) (by subst hS; exact k1) ?_ | refine Zr rfl St.get_new rfl ?_ | refine Zr rfl hg2 rfl ?_ | refine Zr rfl hg3 rfl ?_ | refine Z07 rfl lp1 lp2 ?_ | refine Z0j h1 h2 rfl rfl ?_ | refine Z0 rfl ?_ | refine Z8 rfl ?_ | refine Z2 ?_)
    rintro x e' st' ⟨rfl, v', rfl, hA5, hG5⟩
    repeat' first | refine Z08 rfl rfl ?_ | refine Z1 rfl ?_ | refine Z0 rfl ?_ | refine Z2 ?_
    rw [hpv]
    refine ⟨?_, h4.trans hG5⟩
    have : bs ++ kb :: (Z8b 9 l.length ++ Z8a l) = bs ++ [kb] ++ Z8b 9 l.length ++ Z8a l := by simp
    rw [this]
    exact hA5
theorem Z4g {st : St} {v : PV} {b : List UInt8} (h : AccT 1 st v (Z5 b)) (c : List UInt8) (hr : b.length + c.length ≤ 140737488355328) : ∃ v' st', Z0d st 1 1 v (Z5 c) = some (v', st') ∧ AccT 1 st' v' (Z5 (b ++ c)) ∧ Grow st v st' v' := by
  by_cases hc : c = []
  · subst hc
    refine ⟨v, st, Z2s ?_, by rw [List.append_nil]; exact h, .refl _ _⟩
    rcases h with ⟨rfl, _⟩ | ⟨t, g, rfl, _, _⟩
    · exact .inl rfl
    · exact .inr (.inr ⟨_, _, _, _, _, rfl⟩)
  · obtain ⟨v', st', k1, k2, k3⟩ := h.grow (bytes := 1) (src := Z5 c) (by simpa [Z5] using hc) (by simp only [Z02, Z06]; omega)
    exact ⟨v', st', k1, by rw [Z0f]; exact k2, k3⟩
set_option maxHeartbeats 4000000 in
theorem put_text (n : Int) (s : List UInt8) (l : List Val) (p : PV) (hn : I64 n) (hs : s.length ≤ 140737488355328) (hp : LC l p) : PutOk (.mk 2 n s l) [.int .i64 2, .int .i64 n, .str s, p] := by
  intro st b bs hbn hA hlen
  obtain ⟨kb, hkd⟩ : ∃ kb, UInt8.ofNat ((2 : Int) % 256).toNat = kb := ⟨_, rfl⟩
  have hkb := wrap8' 2
  rw [hkd] at hkb
  have hpv : Z6s (.mk 2 n s l) = kb :: (Z8b 9 s.length ++ s) := by simp only [Z6s, hkd]; simp
  rw [hpv] at hlen ⊢
  simp only [List.length_cons, List.length_append] at hlen
  have hA1 := AccT_new hA (.var [.int .i64 2, .int .i64 n, .str s, p])
  have hG1 := Zhh st b (.var [.int .i64 2, .int .i64 n, .str s, p])
  have hg1 : (st.new (.var [.int .i64 2, .int .i64 n, .str s, p])).get st.next = some (.var [.int .i64 2, .int .i64 n, .str s, p]) := St.get_new
  have hnx : (st.new (.var [.int .i64 2, .int .i64 n, .str s, p])).next = st.next + 1 := rfl
  have hbt : Z0q b ≠ some st.next := fun h => by have := AccT_lt hA h; omega
  generalize hS : st.new (.var [.int .i64 2, .int .i64 n, .str s, p]) = S1 at hA1 hG1 hg1 hnx
  obtain ⟨v2, S2, k1, hA2, hG2⟩ := Z4g hA1 [kb] (by simp; omega)
  have hg2 : S2.get st.next = some (.var [.int .i64 2, .int .i64 n, .str s, p]) := by rw [hG2.2.2.2 st.next (by omega) hbt]; exact hg1
  have hG02 := hG1.trans hG2
  have hrb2 : RB ⟨S2.next, S2.next, S2.toks⟩ v2 (bs ++ [kb]) := (AccT.rb (st := S2) hA2).keep (Nat.le_refl _) (fun _ _ => rfl)
  obtain ⟨v3, S3, h1, h2, h3⟩ := putG (st := ⟨S2.next, S2.next, S2.toks⟩) rfl hrb2 (by simp; omega) s.length (by omega)
  have hlt2 : st.next < S2.next := by have := hG2.2.1; omega
  have hA3 : AccT 1 ⟨S2.base, S3.next, S3.toks⟩ v3 (Z5 (bs ++ [kb] ++ Z8b 9 s.length)) := h2
  have hG3 : Grow S2 v2 ⟨S2.base, S3.next, S3.toks⟩ v3 := Grow_nil (st' := ⟨S2.base, S3.next, S3.toks⟩) ⟨rfl, h3.2.1, h3.2.2.1, h3.2.2.2⟩ h2 (by simp [Z5, putL_ne])
  have hgB : (⟨S2.base, S3.next, S3.toks⟩ : St).get st.next = some (.var [.int .i64 2, .int .i64 n, .str s, p]) := (h3.2.2.2 st.next hlt2 (by simp [Z0q])).trans hg2
  have hnt3 : Z0q v3 ≠ some st.next := fun h => by
    obtain ⟨m, e1, e2⟩ := AccT.none_fresh (st := ⟨S2.next, S2.next, S2.toks⟩) (st' := S3) h3 h2 (by simp [Z5, putL_ne])
    rw [h] at e1
    injection e1 with e1
    have : S2.next ≤ m := e2
    omega
  generalize hB : (⟨S2.base, S3.next, S3.toks⟩ : St) = SB at hA3 hG3 hgB
  have hSBn : st.next < SB.next := by have := hG3.2.1; omega
  obtain ⟨v4, SC, q1, q2, q3⟩ := Z4g hA3 s (by simp; omega)
  have hgC : SC.get st.next = some (.var [.int .i64 2, .int .i64 n, .str s, p]) := by rw [q3.2.2.2 st.next hSBn hnt3]; exact hgB
  have hall : ∀ t, t = S2 ∨ t = SB ∨ t = SC → t.get st.next = some (.var [.int .i64 2, .int .i64 n, .str s, p]) := fun t ht => by
    rcases ht with rfl | rfl | rfl
    · exact hg2
    · exact hgB
    · exact hgC
  have hwl : IntKind.u64.wrap (s.length : Int) = (s.length : Int) := by rw [Z0t]; omega
  rw [← hwl] at h1
  refine Z1f rfl rfl ?_
  repeat' first | ((with_reducible show V _ _ _ _ _ _); first | refine V_M2 5 8 45 SB SC rfl rfl ?_ | refine Z08 rfl rfl ?_ | refine Z1 rfl ?_ | refine Za rfl rfl ?_ | refine Zb rfl rfl ?_) | ((with_reducible show VO _ _ _ _ _ _ _); first | refine Z04 (src := Z5 [kb]) rfl rfl (by rw [← hkb]; rfl) (Z00 _) (by decide) (by decide) (by subst hS; exact k1) ?_ | refine Zr rfl St.get_new rfl ?_ | refine Zr rfl hg2 rfl ?_ | refine Z0 rfl ?_ | refine Z8 rfl ?_ | refine Z2 ?_) | refine M2_raw1 h1 h3.1 rfl rfl rfl hB ?_ | refine M2_append2 rfl (by decide) rfl rfl rfl (Z00 _) (by decide) (by decide) q1 ?_ | refine M2_loadV rfl rfl (.inl rfl) rfl hall rfl ?_ | refine M2_loadV rfl rfl (.inr (.inl rfl)) rfl hall rfl ?_ | refine M2_step rfl rfl (.inl rfl) rfl rfl rfl ?_ | refine M2_step rfl rfl (.inr (.inl rfl)) rfl rfl rfl ?_ | refine M2_step rfl rfl (.inr (.inr rfl)) rfl rfl rfl ?_ | refine M2_nil ?_
  refine ⟨?_, hG02.trans (hG3.trans q3)⟩
  have : bs ++ kb :: (Z8b 9 s.length ++ s) = bs ++ [kb] ++ Z8b 9 s.length ++ s := by simp
  rw [this]
  exact q2
theorem put_all {v : Val} {cs : List PV} (hv : VC v cs) : PutOk v cs := by
  refine VC.ind (M := fun v cs => PutOk v cs) ?_ hv
  intro k n s l p hk hn hs hp ih
  by_cases h2 : k = 2
  · subst h2
    exact put_text n s l p hn hs hp
  · exact put_step k n s l p hk hn hs hp h2 ih
theorem resG_c3 {e : EC} {look : Nat → Option Tok} {t : Nat} {cs : List PV} {x y : PV} (h2 : e.get 2 = some (.ptr t 0)) (hg : look t = some (.var cs)) (hl : cs.length = 4) (h3 : e.get 3 = some x) (h4 : e.get 4 = some y) : resG e look [.cell 2 4 true, .tmp 3, .tmp 4] = some (.tuple [.agg cs, x, y]) := by
  have hld : loadAt look 4 true (.ptr t 0) = some (.agg cs) := by
    simp only [loadAt, behind, hg, Option.bind_some]
    rw [← hl]
    simp [slice?]
  simp [resG, resGs, resG1, h2, h3, h4, hld]
theorem strR_none : ∀ (x acc : List UInt8) (n : Nat), x.count 0 = 0 → Z9q x acc n = .err 11
  | [], acc, n, _ => rfl
  | b :: x, acc, n, h => by
    rw [List.count_cons] at h
    have hb : b ≠ 0 := by rintro rfl; simp at h
    rw [strR_ne hb]
    exact strR_none x _ _ (by omega)
theorem AccR.append {st : St} {v : PV} {b : List UInt8} (h : AccR st v b) (c : List UInt8) (hr : b.length + c.length ≤ 140737488355328) : ∃ v' st', Z0d st 1 1 v (Z5 c) = some (v', st') ∧ AccR st' v' (b ++ c) := by
  by_cases hc : c = []
  · subst hc
    refine ⟨v, st, Z2s ?_, by rw [List.append_nil]; exact h⟩
    rcases h.1 with ⟨rfl, _⟩ | ⟨t, g, rfl, _, _⟩
    · exact .inl rfl
    · exact .inr (.inr ⟨_, _, _, _, _, rfl⟩)
  · exact h.grow c hc hr
def strQ (t : TR) : EX → EC → St → Prop := fun x e' st' => x = .ret ∧ ∃ (a b : Int) (s : List UInt8) (c d : Int), trPV t = .tuple [.agg [.int .i64 a, .int .i64 b, .str s, .nilSl], .int .i64 c, .int .i64 d] ∧ e' = .put 2 (.ptr 0 0) (.put 3 (.int .i64 c) (.put 4 (.int .i64 d) .nil)) ∧ st'.get 0 = some (.var [.int .i64 a, .int .i64 b, .str s, .nilSl])
theorem Z9o {n : Int} (h0 : 0 ≤ n) (h1 : n ≤ 4611686018427387904) : IntKind.i64.wrap n = n := by rw [Z03]; omega
set_option maxHeartbeats 4000000 in
theorem str_loop (p : PV) (b0 : List UInt8) (hp : BV p b0) (hb0 : b0.length ≤ 1073741824) : ∀ (m : Nat) (rest pre acc : List UInt8) (e : EC) (st : St) (v : PV), rest.length < m → b0 = pre ++ rest → acc.length ≤ pre.length → AccR st v acc → e.get 0 = some p → e.get 2 = some (.ptr 0 0) → e.get 5 = some v → e.get 6 = some (.int .i64 pre.length) →
    V T (PE (strQ (Z9q rest acc pre.length))) [.code (.loop Z7i)] .normal e st := by
  intro m
  have ret : ∀ (t : TR) (fr : List Fr) (x : EX) (e' : EC) (st : St) (a b : Int) (s : List UInt8) (c d : Int), trPV t = .tuple [.agg [.int .i64 a, .int .i64 b, .str s, .nilSl], .int .i64 c, .int .i64 d] → Zm 200 fr x = ([], .ret) → e'.get 2 = some (.ptr 0 0) → e'.get 3 = some (.int .i64 c) → e'.get 4 = some (.int .i64 d) → st.get 0 = some (.var [.int .i64 a, .int .i64 b, .str s, .nilSl]) → V T (PE (strQ t)) fr x e' st := fun t fr x e' st a b s c d ht hadv g2 g3 g4 hg =>
    Zn (.put 2 (.ptr 0 0) (.put 3 _ (.put 4 _ .nil))) (Z3 g2 (Z3 g3 (Z3 g4 Zp))) (Z18 hadv ⟨rfl, a, b, s, c, d, ht, rfl, hg⟩)
  induction m with
  | zero => intro rest pre acc e st v hm; omega
  | succ m ih =>
    intro rest pre acc e st v hm hb ha hA h0 h2 h5 h6
    have hlen : pre.length + rest.length = b0.length := by subst hb; simp
    obtain ⟨hAT, hn, ht, c0, c1, c2, c3, hg0⟩ := id hA
    obtain ⟨v1, hv1, hb1⟩ := hp.lo st.get (k := .i64) (m := (pre.length : Int)) (by omega) (by omega)
    rw [Int.toNat_natCast, hb, List.drop_left] at hb1
    have pl1 := hb1.pl
    have hcall := Zdi hb1 0
    rw [show (0 : Int).toNat.toUInt8 = 0 from rfl] at hcall
    rcases idx_spec rest with ⟨hi, hcn⟩ | ⟨x, y, hxy, hx0, hi⟩
    · rw [hi] at hcall
      have hs := strR_none rest acc pre.length hcn
      rw [hs]
      refine Zn (.put 0 p (.put 2 _ (.put 5 _ (.put 6 _ .nil)))) (Z3 h0 (Z3 h2 (Z3 h5 (Z3 h6 Zp)))) (Zi ?_)
      clear ih
      repeat' first | refine Z1 rfl ?_ | refine Za rfl rfl ?_ | ((with_reducible show VO _ _ _ _ _ _ _); first | refine Z16 v1 rfl rfl rfl rfl hv1 ?_ | refine Z7 rfl rfl hcall ?_ | refine Z7 rfl rfl (Z0v _) ?_ | refine Ze rfl rfl rfl rfl rfl (Z01 hg0 rfl) ?_ | refine Z0 rfl ?_ | refine Z2 ?_ | refine Z0s rfl rfl ?_) | refine ret (.err 11) _ _ _ _ _ _ _ _ _ rfl rfl rfl rfl rfl St.get_put
    · rw [hi] at hcall
      have hxl : x.length + 1 + y.length = rest.length := by rw [hxy]; simp; omega
      have hs := strR_app x (0 :: y) acc pre.length hx0
      rw [← hxy] at hs
      have hn0 : decide ((x.length : Int) < 0) = false := decide_eq_false (by omega)
      have hw1 : IntKind.i64.wrap (IntKind.i64.wrap ((pre.length : Int) + x.length) + 1) = ((pre.length + x.length + 1 : Nat) : Int) := by rw [Z9o (n := (pre.length : Int) + x.length) (by omega) (by omega), Z9o (by omega) (by omega)]; rfl
      cases y with
      | nil =>
        have hs2 : Z9q rest acc pre.length = .err 11 := by rw [hs]; simp [Z9q]
        have hge : decide ((b0.length : Int) ≤ IntKind.i64.wrap (IntKind.i64.wrap ((pre.length : Int) + x.length) + 1)) = true := decide_eq_true (by rw [hw1]; simp at hxl; omega)
        rw [hs2]
        refine Zn (.put 0 p (.put 2 _ (.put 5 _ (.put 6 _ .nil)))) (Z3 h0 (Z3 h2 (Z3 h5 (Z3 h6 Zp)))) (Zi ?_)
        clear ih
        repeat' first | refine Z22 hge rfl rfl ?_ | refine Z1 rfl ?_ | ((with_reducible show VO _ _ _ _ _ _ _); first | refine Z16 v1 rfl rfl rfl rfl hv1 ?_ | refine Z0a rfl hp ?_ | refine Z7 rfl rfl hcall ?_ | refine Z7 rfl rfl (Z0v _) ?_ | refine Ze rfl rfl rfl rfl rfl (Z01 hg0 rfl) ?_ | refine Z0 rfl ?_ | refine Z2 ?_ | refine Zf rfl ?_) | refine ret (.err 11) _ _ _ _ _ _ _ _ _ rfl rfl rfl rfl rfl St.get_put
        all_goals (exfalso; simp at *; try omega)
      | cons d y =>
        have hge : decide ((b0.length : Int) ≤ IntKind.i64.wrap (IntKind.i64.wrap ((pre.length : Int) + x.length) + 1)) = false := decide_eq_false (by rw [hw1]; simp at hxl; omega)
        have hj : IntKind.i64.wrap ((pre.length : Int) + x.length) = ((pre.length + x.length : Nat) : Int) := by rw [Z9o (by omega) (by omega)]; rfl
        obtain ⟨v2, hv2, hb2⟩ := hp.lohi st.get (k := .i64) (k' := .i64) (m := (pre.length : Int)) (m' := IntKind.i64.wrap ((pre.length : Int) + x.length)) (by omega) (by rw [hj]; omega) (by rw [hj]; omega)
        have hb2' : BV v2 x := by
          have : (b0.drop (pre.length : Int).toNat).take ((IntKind.i64.wrap ((pre.length : Int) + x.length)).toNat - (pre.length : Int).toNat) = x := by
            rw [hj, hb, hxy, Int.toNat_natCast, Int.toNat_natCast, List.drop_left, Nat.add_sub_cancel_left, List.take_left]
          rw [this] at hb2
          exact hb2
        obtain ⟨v3, st3, k1, k2⟩ := hA.append x (by simp at hxl; omega)
        obtain ⟨hAT3, hn3, ht3, d0, d1, d2, d3, hg3⟩ := id k2
        have hel := RB.elems (AccT.rb (st := st3) hAT3)
        have hw2 : IntKind.i64.wrap ((pre.length : Int) + IntKind.i64.wrap ((x.length : Int) + 2)) = ((pre.length + x.length + 2 : Nat) : Int) := by rw [Z9o (n := (x.length : Int) + 2) (by omega) (by omega), Z9o (by omega) (by omega)]; omega
        have hw4 : IntKind.i64.wrap (IntKind.i64.wrap ((pre.length : Int) + IntKind.i64.wrap ((x.length : Int) + 2)) - 1) = ((pre.length + x.length + 1 : Nat) : Int) := by rw [hw2, Z9o (by omega) (by omega)]; omega
        have hat2 : At 1 p (IntKind.i64.wrap (IntKind.i64.wrap ((pre.length : Int) + IntKind.i64.wrap ((x.length : Int) + 2)) - 1)) [.int .u8 d.toNat] := by
          rw [hw4]
          refine hp.at (by omega) ?_
          rw [Int.toNat_natCast, hb, hxy]
          rw [List.getElem?_append_right (by omega), List.getElem?_append_right (by omega)]
          rw [show pre.length + x.length + 1 - pre.length - x.length = 1 by omega]
          rfl
        by_cases hd1 : d = 1
        · subst hd1
          have hs1 : Z9q rest acc pre.length = made (.mk 2 0 (acc ++ x) []) (pre.length + x.length + 2) := by rw [hs]; simp [Z9q]
          have hmade := run_made 2 0 (acc ++ x) (pre.length + x.length + 2) (by simp [I64]) (by simp [I64]) (by simp at hxl ⊢; omega)
          rw [← hw2] at hmade
          have hstr := run_Str (acc ++ x)
          obtain ⟨a, b, s, c', d', hf⟩ := Zd7 (made (.mk 2 0 (acc ++ x) []) (pre.length + x.length + 2))
          rw [hf] at hmade
          rw [hs1]
          refine Zn (.put 0 p (.put 2 _ (.put 5 _ (.put 6 _ .nil)))) (Z3 h0 (Z3 h2 (Z3 h5 (Z3 h6 Zp)))) (Zi ?_)
          clear ih
          repeat' first | ((with_reducible show V _ _ _ _ _ _); first | refine Z2t hge rfl rfl ?_ | refine Z1 rfl ?_ | refine Za rfl rfl ?_) | ((with_reducible show VO _ _ _ _ _ _ _); first | refine Z16 v1 rfl rfl rfl rfl hv1 ?_ | refine Z16 v2 rfl rfl rfl rfl hv2 ?_ | refine Z0a rfl hp ?_ | refine Z7 rfl rfl hcall ?_ | refine Zq rfl rfl hat2 ?_ | refine Z04 rfl rfl (Z0n hb2') (Z00 _) (by decide) (by decide) k1 ?_ | refine O_toStrA rfl hel ?_ | refine Z7 rfl rfl hstr ?_ | refine Z7 rfl rfl hmade ?_ | refine Ze rfl rfl rfl rfl rfl (Z01 hg3 rfl) ?_ | refine Z0 rfl ?_ | refine Z2 ?_ | refine Zf rfl ?_) | refine ret _ _ _ _ _ _ _ _ _ _ hf rfl rfl rfl rfl St.get_put
          all_goals (exfalso; simp at *; try omega)
        · by_cases hd2 : d = 255
          · subst hd2
            obtain ⟨v4, st4, j1, j2⟩ := k2.grow [0] (by simp) (by simp at hxl ⊢; omega)
            have hs1 : Z9q rest acc pre.length = Z9q y (acc ++ x ++ [0]) (pre.length + x.length + 2) := by rw [hs]; simp [Z9q]
            have fin : ∀ (fr : List Fr) (xx : EX) (e' : EC), Zm 200 fr xx = ([.code (.loop Z7i)], .normal) → e'.get 0 = some p → e'.get 2 = some (.ptr 0 0) → e'.get 5 = some v4 → e'.get 6 = some (.int .i64 (IntKind.i64.wrap ((pre.length : Int) + IntKind.i64.wrap ((x.length : Int) + 2)))) → V T (PE (strQ (Z9q rest acc pre.length))) fr xx e' st4 := fun fr xx e' hadv g0 g2 g5 g6 => Z34 hadv (by
              have hpx : (pre ++ x ++ [0, 255]).length = pre.length + x.length + 2 := by simp; omega
              rw [hw2, ← hpx] at g6
              rw [hs1, ← hpx]
              exact ih y (pre ++ x ++ [0, 255]) (acc ++ x ++ [0]) e' st4 v4 (by simp at hxl; omega) (by rw [hb, hxy]; simp) (by simp; omega) j2 g0 g2 g5 g6)
            refine Zn (.put 0 p (.put 2 _ (.put 5 _ (.put 6 _ .nil)))) (Z3 h0 (Z3 h2 (Z3 h5 (Z3 h6 Zp)))) (Zi ?_)
            clear ih
            repeat' first | ((with_reducible show V _ _ _ _ _ _); first | refine Z2t hge rfl rfl ?_ | refine Z1 rfl ?_ | refine Za rfl rfl ?_ | refine Zb rfl rfl ?_) | ((with_reducible show VO _ _ _ _ _ _ _); first | refine Z16 v1 rfl rfl rfl rfl hv1 ?_ | refine Z16 v2 rfl rfl rfl rfl hv2 ?_ | refine Z0a rfl hp ?_ | refine Z7 rfl rfl hcall ?_ | refine Zq rfl rfl hat2 ?_ | refine Z04 rfl rfl (Z0n hb2') (Z00 _) (by decide) (by decide) k1 ?_ | refine Z04 (src := Z5 [0]) rfl rfl rfl (Z00 _) (by decide) (by decide) j1 ?_ | refine Z0 rfl ?_ | refine Z2 ?_ | refine Zf rfl ?_) | refine fin _ _ _ rfl rfl rfl rfl rfl
            all_goals (exfalso; clear fin; simp at *; try omega)
          · have hs1 : Z9q rest acc pre.length = .err 30 := by rw [hs]; simp [Z9q, hd1, hd2]
            have e1 : decide ((d.toNat : Int) = 1) = false := decide_eq_false (fun h => hd1 (UInt8.toNat_inj.1 (by have : (1 : UInt8).toNat = 1 := rfl; omega)))
            have e2 : decide ((d.toNat : Int) = 255) = false := decide_eq_false (fun h => hd2 (UInt8.toNat_inj.1 (by have : (255 : UInt8).toNat = 255 := rfl; omega)))
            rw [hs1]
            refine Zn (.put 0 p (.put 2 _ (.put 5 _ (.put 6 _ .nil)))) (Z3 h0 (Z3 h2 (Z3 h5 (Z3 h6 Zp)))) (Zi ?_)
            clear ih
            repeat' first | ((with_reducible show V _ _ _ _ _ _); first | refine Z2t hge rfl rfl ?_ | refine Z2t e1 rfl rfl ?_ | refine Z2t e2 rfl rfl ?_ | refine Z1 rfl ?_) | ((with_reducible show VO _ _ _ _ _ _ _); first | refine Z16 v1 rfl rfl rfl rfl hv1 ?_ | refine Z16 v2 rfl rfl rfl rfl hv2 ?_ | refine Z0a rfl hp ?_ | refine Z7 rfl rfl hcall ?_ | refine Zq rfl rfl hat2 ?_ | refine Z04 rfl rfl (Z0n hb2') (Z00 _) (by decide) (by decide) k1 ?_ | refine Z7 rfl rfl (Z0v _) ?_ | refine Ze rfl rfl rfl rfl rfl (Z01 hg3 rfl) ?_ | refine Z0 rfl ?_ | refine Z2 ?_ | refine Zf rfl ?_) | refine ret (.err 30) _ _ _ _ _ _ _ _ _ rfl rfl rfl rfl rfl St.get_put
            all_goals (exfalso; simp at *; try omega)
theorem run_str {p : PV} {c : UInt8} {r : List UInt8} (hp : BV p (c :: r)) (hb : (c :: r).length ≤ 1073741824) : T.R (.call n_codec_str [p] (trPV (Z9q r [] 1))) := by
  have hl := fun e st v hA h0 h2 h5 h6 => str_loop p (c :: r) hp hb (r.length + 1) r [c] [] e st v (by omega) rfl (by simp) hA h0 h2 h5 h6
  refine Zd rfl rfl ?_
  repeat' first | refine Z3r rfl (hl _ (emptySt.new (.var [.int .i64 0, .int .i64 0, .str [], .nilSl])) _ ⟨.inl ⟨rfl, rfl⟩, by show 0 < 1; omega, by simp [Z0q], _, _, _, _, rfl⟩ rfl rfl rfl rfl) ?_ | refine Z1 rfl ?_ | ((with_reducible show VO _ _ _ _ _ _ _); first | refine Z0 rfl ?_ | refine Z8 rfl ?_ | refine Z2 ?_)
  rintro x e' st' ⟨rfl, a, b, s, m, d, ht, rfl, hg0⟩
  have ht' : trPV (Z9q r [] 1) = _ := ht
  rw [ht']
  exact Z3t rfl (resG_c3 rfl hg0 rfl rfl rfl) (Pl.view (by (repeat' (first | exact Pl.int _ _ | exact Pl.bool _ | exact Pl.str _ | exact Pl.nilSl | exact Z2u | refine Z0b ?_ ?_ | refine Pl.tuple _ ?_ | refine Pl.agg _ ?_ | refine Pl.func _ _ ?_ | assumption | refine Pl.iptr _ _ ?_ | exact Z5y | refine Z3i ?_ ?_ | refine Pl.sl _ _ ?_)); first | done | fail)) rfl
theorem u8_eq {c : UInt8} {k : Nat} (hk : k < 256) (h : c ≠ UInt8.ofNat k) : decide (IntKind.i64.wrap (c.toNat : Int) = (k : Int)) = false := decide_eq_false (fun e => h (by
  have := c.toNat_lt
  rw [Z9o (by omega) (by omega)] at e
  apply UInt8.toNat_inj.1
  rw [UInt8.toNat_ofNat']
  omega))
theorem i64_ord (u : Nat) (hu : u < 18446744073709551616) : I64 (Z9p u) := by unfold I64 Z9p; omega
theorem p256 : (256 : Nat) ^ 8 = 18446744073709551616 := by decide
set_option maxHeartbeats 4000000 in
theorem run_Take {p : PV} {b : List UInt8} (hp : BV p b) (hb : b.length ≤ 1073741824) : T.R (.call n_codec_Take [p] (trPV (Z7p b))) := by
  have plp := hp.pl
  cases b with
  | nil =>
    refine Zd rfl rfl ?_
    repeat' first | ((with_reducible show V _ _ _ _ _ _); first | refine Z1 rfl ?_ | refine Za rfl rfl ?_ | refine Zc rfl rfl ?_) | ((with_reducible show VO _ _ _ _ _ _ _); first | refine Z0a rfl hp ?_ | refine Z7 rfl rfl (Z0v _) ?_ | refine Z0 rfl ?_ | refine Z8 rfl ?_ | refine Z2 ?_)
    rfl
  | cons c r =>
    have hne : decide (((c :: r).length : Int) = 0) = false := decide_eq_false (by simp; omega)
    have hat := hp.at (n := 0) (b := c) (by omega) rfl
    by_cases h167 : c = 1 ∨ c = 6 ∨ c = 7
    · by_cases h8 : r.length < 8
      · have hlt : decide (((c :: r).length : Int) < 9) = true := decide_eq_true (by simp; omega)
        have ht : Z7p (c :: r) = .err 11 := by simp only [Z7p]; rw [if_pos h167, if_pos h8]
        rw [ht]
        rcases h167 with rfl | rfl | rfl
        · refine Zd rfl rfl ?_
          repeat' first | ((with_reducible show V _ _ _ _ _ _); first | refine Z2t hne rfl rfl ?_ | refine Z22 hlt rfl rfl ?_ | refine Z1 rfl ?_ | refine Za rfl rfl ?_ | refine Zc rfl rfl ?_) | ((with_reducible show VO _ _ _ _ _ _ _); first | refine Z0a rfl hp ?_ | refine Zq rfl rfl hat ?_ | refine Z7 rfl rfl (Z0v _) ?_ | refine Z0 rfl ?_ | refine Z8 rfl ?_ | refine Z2 ?_)
          rfl
        · refine Zd rfl rfl ?_
          repeat' first | ((with_reducible show V _ _ _ _ _ _); first | refine Z2t hne rfl rfl ?_ | refine Z22 hlt rfl rfl ?_ | refine Z1 rfl ?_ | refine Za rfl rfl ?_ | refine Zc rfl rfl ?_) | ((with_reducible show VO _ _ _ _ _ _ _); first | refine Z0a rfl hp ?_ | refine Zq rfl rfl hat ?_ | refine Z7 rfl rfl (Z0v _) ?_ | refine Z0 rfl ?_ | refine Z8 rfl ?_ | refine Z2 ?_)
          rfl
        · refine Zd rfl rfl ?_
          repeat' first | ((with_reducible show V _ _ _ _ _ _); first | refine Z2t hne rfl rfl ?_ | refine Z22 hlt rfl rfl ?_ | refine Z1 rfl ?_ | refine Za rfl rfl ?_ | refine Zc rfl rfl ?_) | ((with_reducible show VO _ _ _ _ _ _ _); first | refine Z0a rfl hp ?_ | refine Zq rfl rfl hat ?_ | refine Z7 rfl rfl (Z0v _) ?_ | refine Z0 rfl ?_ | refine Z8 rfl ?_ | refine Z2 ?_)
          rfl
      · have hlt : decide (((c :: r).length : Int) < 9) = false := decide_eq_false (by simp; omega)
        have ht : Z7p (c :: r) = made (.mk c.toNat (Z9p (un8 (r.take 8))) [] []) 9 := by simp only [Z7p]; rw [if_pos h167, if_neg h8]
        have hl8 : (r.take 8).length = 8 := by simp; omega
        have hu := un8_lt (r.take 8)
        rw [hl8, p256] at hu
        have hI := i64_ord _ hu
        have hmade := fun k hk => run_made k (Z9p (un8 (r.take 8))) [] 9 hk hI (by simp)
        have hun := unflip _ hu
        obtain ⟨va, vb, vs, vm, vd, hf⟩ := Zd7 (made (.mk c.toNat (Z9p (un8 (r.take 8))) [] []) 9)
        rw [ht, hf]
        obtain ⟨f, rfl⟩ : ∃ f, p = .sl (Z5 (c :: r)) f := by cases hp with
          | sl _ f => exact ⟨f, rfl⟩
        have hs := fun look => Zkc (look := look) (sz := 1) (k := .i64) (k' := .i64) (lo := 1) (hi := 9) (f := f) (Z2m (c :: r)) (by omega) (by omega) (by rw [Z02]; simp; omega)
        have hcut : ((Z5 (c :: r)).drop (1 : Int).toNat).take ((9 : Int).toNat - (1 : Int).toNat) = Z5 (r.take 8) := by rw [Z4e, Z7o]; rfl
        rw [hcut] at hs
        obtain ⟨fl, hfl⟩ : ∃ fl : Bool, (∀ look, sliceSl? look 1 (some (.int .i64 1)) (some (.int .i64 9)) none (.sl (Z5 (c :: r)) f) = some (.sl (Z5 (r.take 8)) fl)) := ⟨_, hs⟩
        have hQ := BV.sl (r.take 8) fl
        have hloop := fun e st h2 h5 h6 h35 h36 h37 => take_loop _ (r.take 8) hQ hl8 (.ptr 0 0) (.ptr 1 0) (r.take 8) [] e st rfl h2 h5 h6 h35 h36 h37
        have h36 := congrArg (fun n : Nat => some (PV.int .i64 (n : Int))) hl8
        rcases h167 with rfl | rfl | rfl
        · have hm1 := hmade 1 (by simp [I64])
          have hf' : trPV (made (.mk 1 (Z9p (un8 (r.take 8))) [] []) 9) = _ := hf
          rw [hf', ← hun] at hm1
          refine Zd rfl rfl ?_
          repeat' first | ((with_reducible show V _ _ _ _ _ _); first | refine Z3r rfl (hloop _ _ rfl rfl rfl rfl h36 rfl) ?_ | refine Z2t hne rfl rfl ?_ | refine Z2t hlt rfl rfl ?_ | refine Z1 rfl ?_ | refine Za rfl rfl ?_) | ((with_reducible show VO _ _ _ _ _ _ _); first | refine Z16 _ rfl rfl rfl rfl (hfl _) ?_ | refine Z0a rfl hQ ?_ | refine Z0a rfl hp ?_ | refine Zq rfl rfl hat ?_ | refine Z0 rfl ?_ | refine Z8 rfl ?_ | refine Z2 ?_)
          rintro x e' st' ⟨rfl, rfl, rfl⟩
          repeat' first | refine Z1 rfl ?_ | refine Zc rfl rfl ?_ | ((with_reducible show VO _ _ _ _ _ _ _); first | refine Z7 rfl rfl hm1 ?_ | refine Z0 rfl ?_ | refine Z8 rfl ?_ | refine Z2 ?_)
          rfl
        · have hm1 := hmade 6 (by simp [I64])
          have hf' : trPV (made (.mk 6 (Z9p (un8 (r.take 8))) [] []) 9) = _ := hf
          rw [hf', ← hun] at hm1
          refine Zd rfl rfl ?_
          repeat' first | ((with_reducible show V _ _ _ _ _ _); first | refine Z3r rfl (hloop _ _ rfl rfl rfl rfl h36 rfl) ?_ | refine Z2t hne rfl rfl ?_ | refine Z2t hlt rfl rfl ?_ | refine Z1 rfl ?_ | refine Za rfl rfl ?_) | ((with_reducible show VO _ _ _ _ _ _ _); first | refine Z16 _ rfl rfl rfl rfl (hfl _) ?_ | refine Z0a rfl hQ ?_ | refine Z0a rfl hp ?_ | refine Zq rfl rfl hat ?_ | refine Z0 rfl ?_ | refine Z8 rfl ?_ | refine Z2 ?_)
          rintro x e' st' ⟨rfl, rfl, rfl⟩
          repeat' first | refine Z1 rfl ?_ | refine Zc rfl rfl ?_ | ((with_reducible show VO _ _ _ _ _ _ _); first | refine Z7 rfl rfl hm1 ?_ | refine Z0 rfl ?_ | refine Z8 rfl ?_ | refine Z2 ?_)
          rfl
        · have hm1 := hmade 7 (by simp [I64])
          have hf' : trPV (made (.mk 7 (Z9p (un8 (r.take 8))) [] []) 9) = _ := hf
          rw [hf', ← hun] at hm1
          refine Zd rfl rfl ?_
          repeat' first | ((with_reducible show V _ _ _ _ _ _); first | refine Z3r rfl (hloop _ _ rfl rfl rfl rfl h36 rfl) ?_ | refine Z2t hne rfl rfl ?_ | refine Z2t hlt rfl rfl ?_ | refine Z1 rfl ?_ | refine Za rfl rfl ?_) | ((with_reducible show VO _ _ _ _ _ _ _); first | refine Z16 _ rfl rfl rfl rfl (hfl _) ?_ | refine Z0a rfl hQ ?_ | refine Z0a rfl hp ?_ | refine Zq rfl rfl hat ?_ | refine Z0 rfl ?_ | refine Z8 rfl ?_ | refine Z2 ?_)
          rintro x e' st' ⟨rfl, rfl, rfl⟩
          repeat' first | refine Z1 rfl ?_ | refine Zc rfl rfl ?_ | ((with_reducible show VO _ _ _ _ _ _ _); first | refine Z7 rfl rfl hm1 ?_ | refine Z0 rfl ?_ | refine Z8 rfl ?_ | refine Z2 ?_)
          rfl
    · have n1 : c ≠ 1 := fun e => h167 (.inl e)
      have n6 : c ≠ 6 := fun e => h167 (.inr (.inl e))
      have n7 : c ≠ 7 := fun e => h167 (.inr (.inr e))
      by_cases h3 : c = 3
      · subst h3
        cases r with
        | nil =>
          refine Zd rfl rfl ?_
          repeat' first | ((with_reducible show V _ _ _ _ _ _); first | refine Z1 rfl ?_ | refine Za rfl rfl ?_ | refine Zb rfl rfl ?_ | refine Zc rfl rfl ?_) | ((with_reducible show VO _ _ _ _ _ _ _); first | refine Z0a rfl hp ?_ | refine Zq rfl rfl hat ?_ | refine Z7 rfl rfl (Z0v _) ?_ | refine Z0 rfl ?_ | refine Z8 rfl ?_ | refine Z2 ?_)
          rfl
        | cons d r =>
          have hlt : decide (((3 :: d :: r : List UInt8).length : Int) < 2) = false := decide_eq_false (by simp; omega)
          have hat1 := hp.at (n := 1) (b := d) (by omega) rfl
          have hwd : IntKind.i64.wrap (d.toNat : Int) = d.toNat := Z9o (by omega) (by have := d.toNat_lt; omega)
          have hm1 := run_made 3 (d.toNat : Int) [] 2 (by simp [I64]) (by have := d.toNat_lt; unfold I64; omega) (by simp)
          have ht : Z7p (3 :: d :: r) = made (.mk 3 d.toNat [] []) 2 := rfl
          obtain ⟨va, vb, vs, vm, vd, hf⟩ := Zd7 (made (.mk 3 d.toNat [] []) 2)
          rw [ht, hf]
          rw [hf, ← hwd] at hm1
          refine Zd rfl rfl ?_
          repeat' first | ((with_reducible show V _ _ _ _ _ _); first | refine Z2t hne rfl rfl ?_ | refine Z1 rfl ?_ | refine Za rfl rfl ?_ | refine Zc rfl rfl ?_) | ((with_reducible show VO _ _ _ _ _ _ _); first | refine Z0a rfl hp ?_ | refine Zq rfl rfl hat ?_ | refine Zq rfl rfl hat1 ?_ | refine Z7 rfl rfl hm1 ?_ | refine Z0 rfl ?_ | refine Z8 rfl ?_ | refine Z2 ?_)
          rfl
      · by_cases h2 : c = 2
        · subst h2
          have hst := run_str hp hb
          have ht : Z7p (2 :: r) = Z9q r [] 1 := rfl
          obtain ⟨va, vb, vs, vm, vd, hf⟩ := Zd7 (Z9q r [] 1)
          rw [ht, hf]
          rw [hf] at hst
          refine Zd rfl rfl ?_
          repeat' first | ((with_reducible show V _ _ _ _ _ _); first | refine Z2t hne rfl rfl ?_ | refine Z1 rfl ?_ | refine Za rfl rfl ?_ | refine Zc rfl rfl ?_) | ((with_reducible show VO _ _ _ _ _ _ _); first | refine Z0a rfl hp ?_ | refine Zq rfl rfl hat ?_ | refine Z7 rfl rfl hst ?_ | refine Z0 rfl ?_ | refine Z8 rfl ?_ | refine Z2 ?_)
          rfl
        · have ht : Z7p (c :: r) = .err 30 := by simp only [Z7p]; rw [if_neg h167, if_neg h3, if_neg h2]
          rw [ht]
          refine Zd rfl rfl ?_
          repeat' first | ((with_reducible show V _ _ _ _ _ _); first | refine Z2t hne rfl rfl ?_ | refine Z2t (u8_eq (k := 1) (by omega) n1) rfl rfl ?_ | refine Z2t (u8_eq (k := 6) (by omega) n6) rfl rfl ?_ | refine Z2t (u8_eq (k := 7) (by omega) n7) rfl rfl ?_ | refine Z2t (u8_eq (k := 3) (by omega) h3) rfl rfl ?_ | refine Z2t (u8_eq (k := 2) (by omega) h2) rfl rfl ?_ | refine Z1 rfl ?_ | refine Zc rfl rfl ?_) | ((with_reducible show VO _ _ _ _ _ _ _); first | refine Z0a rfl hp ?_ | refine Zq rfl rfl hat ?_ | refine Z7 rfl rfl (Z0v _) ?_ | refine Z0 rfl ?_ | refine Z8 rfl ?_ | refine Z2 ?_)
          rfl
theorem strR_ok : ∀ (m : Nat) (r acc : List UInt8) (n : Nat) (v : Val) (k : Nat), r.length ≤ m → Z9q r acc n = .ok v k → n < k ∧ k ≤ n + r.length ∧ ∃ s, v = .mk 2 0 s [] ∧ s.length ≤ acc.length + r.length := by
  intro m
  induction m with
  | zero =>
    intro r acc n v k hm h
    have : r = [] := List.length_eq_zero_iff.1 (by omega)
    subst this
    cases h
  | succ m ih =>
    intro r acc n v k hm h
    match r, hm, h with
    | [], hm, h => cases h
    | [b], hm, h => simp [Z9q] at h
    | b :: c :: r, hm, h =>
      unfold Z9q at h
      split at h
      · split at h
        · unfold made at h
          split at h
          · injection h with h1 h2
            subst h1 h2
            exact ⟨by omega, by simp, acc, rfl, by simp⟩
          · cases h
        · split at h
          · obtain ⟨h1, h2, s, h3, h4⟩ := ih r _ _ v k (by simp at hm; omega) h
            exact ⟨by omega, by simp; omega, s, h3, by simp at h4 ⊢; omega⟩
          · cases h
      · obtain ⟨h1, h2, s, h3, h4⟩ := ih (c :: r) _ _ v k (by simp at hm ⊢; omega) h
        exact ⟨by omega, by simp at h2 ⊢; omega, s, h3, by simp at h4 ⊢; omega⟩
theorem made_ok {w v : Val} {m n : Nat} (h : made w m = .ok v n) : v = w ∧ n = m := by
  unfold made at h
  split at h
  · injection h with h1 h2; exact ⟨h1.symm, h2.symm⟩
  · cases h
theorem take_ok {b : List UInt8} {v : Val} {n : Nat} (h : Z7p b = .ok v n) (hb : b.length ≤ 1073741824) : 1 ≤ n ∧ n ≤ b.length ∧ ∃ k m s, v = .mk k m s [] ∧ I64 k ∧ I64 m ∧ s.length ≤ 1073741824 := by
  cases b with
  | nil => cases h
  | cons c r =>
    have hc := c.toNat_lt
    simp only [Z7p] at h
    split at h
    · split at h
      · cases h
      · rename_i h8
        obtain ⟨rfl, rfl⟩ := made_ok h
        have hu := un8_lt (r.take 8)
        have hl8 : (r.take 8).length = 8 := by simp; omega
        rw [hl8, p256] at hu
        exact ⟨by omega, by simp; omega, _, _, _, rfl, by unfold I64; omega, i64_ord _ hu, by simp⟩
    · split at h
      · cases r with
        | nil => cases h
        | cons d r =>
          have hd := d.toNat_lt
          obtain ⟨rfl, rfl⟩ := made_ok h
          exact ⟨by omega, by simp, _, _, _, rfl, by simp [I64], by unfold I64; omega, by simp⟩
      · split at h
        · obtain ⟨h1, h2, s, rfl, h4⟩ := strR_ok r.length r [] 1 v n (Nat.le_refl _) h
          exact ⟨by omega, by simp; omega, _, _, _, rfl, by simp [I64], by simp [I64], by simp at h4 hb; omega⟩
        · cases h
theorem strR_err0 : ∀ (m : Nat) (r acc : List UInt8) (n : Nat), r.length ≤ m → Z9q r acc n ≠ .err 0 := by
  intro m
  induction m with
  | zero =>
    intro r acc n hm h
    have : r = [] := List.length_eq_zero_iff.1 (by omega)
    subst this
    injection h with h; cases h
  | succ m ih =>
    intro r acc n hm h
    match r, hm, h with
    | [], hm, h => injection h with h; cases h
    | [b], hm, h => simp [Z9q] at h
    | b :: c :: r, hm, h =>
      unfold Z9q at h
      split at h
      · split at h
        · unfold made at h
          split at h
          · cases h
          · injection h with h; cases h
        · split at h
          · exact ih r _ _ (by simp at hm; omega) h
          · injection h with h; cases h
      · exact ih (c :: r) _ _ (by simp at hm ⊢; omega) h
theorem made_err0 (w : Val) (m : Nat) : made w m ≠ .err 0 := fun h => by
  unfold made at h
  split at h
  · cases h
  · injection h with h; cases h
theorem take_err0 (b : List UInt8) : Z7p b ≠ .err 0 := fun h => by
  cases b with
  | nil => injection h with h; cases h
  | cons c r =>
    simp only [Z7p] at h
    split at h
    · split at h
      · injection h with h; cases h
      · exact made_err0 _ _ h
    · split at h
      · cases r with
        | nil => injection h with h; cases h
        | cons d r => exact made_err0 _ _ h
      · split at h
        · exact strR_err0 _ _ _ _ (Nat.le_refl _) h
        · injection h with h; cases h
end Go.Proofs.YtgdjnlopdpjnaaaGreatDoor

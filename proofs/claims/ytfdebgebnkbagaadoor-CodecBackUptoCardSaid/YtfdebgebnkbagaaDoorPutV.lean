/- codec.put, codec.Put. -/
import Derived.Test.YtfdebgebnkbagaaDoorValJ
import Derived.Test.YtfdebgebnkbagaaDoorPutG
import Derived.Test.YtfdebgebnkbagaaDoorCodD
set_option linter.unusedVariables false
set_option linter.unusedSimpArgs false
namespace Go.Proofs.YtfdebgebnkbagaaDoor
open Go Go.AM Go.RowKit
def zigN (n : Int) : Nat := if n < 0 then (-2 * n - 1).toNat else (2 * n).toNat
mutual
def putV : Val → List UInt8
  | .mk k n s l => UInt8.ofNat (k % 256).toNat :: (if k = 1 then putL 9 (zigN n) else if k = 6 ∨ k = 7 then putL 9 (n % 18446744073709551616).toNat else if k = 3 then [UInt8.ofNat (n % 256).toNat] else if k = 2 then putL 9 s.length ++ s else putL 9 l.length ++ putVs l)
def putVs : List Val → List UInt8
  | [] => []
  | v :: l => putV v ++ putVs l
end
theorem zig_val {n : Int} (h : I64 n) : IntKind.u64.wrap ((BitVec.ofInt 64 (IntKind.u64.wrap (IntKind.u64.wrap n * 2 ^ (min (1 : Int).toNat IntKind.u64.bits))) ^^^ BitVec.ofInt 64 (IntKind.u64.wrap (n.fdiv (2 ^ (min (63 : Int).toNat IntKind.i64.bits))))).toNat : Int) = (zigN n : Int) := by
  obtain ⟨h1, h2⟩ := h
  have e1 : (2 : Int) ^ (min (1 : Int).toNat IntKind.u64.bits) = 2 := rfl
  have e2 : (2 : Int) ^ (min (63 : Int).toNat IntKind.i64.bits) = 9223372036854775808 := rfl
  rw [e1, e2]
  by_cases hn : n < 0
  · have a : IntKind.u64.wrap (IntKind.u64.wrap n * 2) = ((2 * n + 18446744073709551616).toNat : Int) := by rw [wrap_u64, wrap_u64]; omega
    have b : IntKind.u64.wrap (n.fdiv 9223372036854775808) = 18446744073709551615 := by rw [wrap_u64, Int.fdiv_eq_ediv_of_nonneg _ (by omega)]; omega
    rw [a, b]
    have c : BitVec.ofInt 64 18446744073709551615 = BitVec.allOnes 64 := rfl
    rw [c, BitVec.xor_allOnes, BitVec.toNat_not, BitVec.ofInt_natCast, BitVec.toNat_ofNat, wrap_u64]
    unfold zigN
    rw [if_pos hn]
    omega
  · have a : IntKind.u64.wrap (IntKind.u64.wrap n * 2) = ((2 * n).toNat : Int) := by rw [wrap_u64, wrap_u64]; omega
    have b : IntKind.u64.wrap (n.fdiv 9223372036854775808) = 0 := by rw [wrap_u64, Int.fdiv_eq_ediv_of_nonneg _ (by omega)]; omega
    rw [a, b]
    have c : BitVec.ofInt 64 0 = 0#64 := rfl
    rw [c, BitVec.xor_zero, BitVec.ofInt_natCast, BitVec.toNat_ofNat, wrap_u64]
    unfold zigN
    rw [if_neg hn]
    omega
theorem run_Zig {n : Int} (h : I64 n) : T.R (.call n_num_Zig [.int .i64 n] (.int .u64 (zigN n))) := by
  have hz := zig_val h
  refine call_V rfl rfl ?_
  repeat' first | refine V_O rfl ?_ | refine O_step rfl ?_ | refine O_nil' ?_ | refine V_cT rfl rfl ?_ | refine V_cF rfl rfl ?_ | refine V_cEq rfl rfl ?_ | refine V_cNe rfl rfl ?_ | refine V_cB rfl rfl (fun _ => ?_) (fun _ => ?_) | refine O_gT' rfl ?_ | refine O_gU' rfl ?_ | refine O_gF' rfl rfl ?_ | refine O_gEq rfl ?_ | refine O_gNe rfl ?_ | refine O_gS rfl (fun _ => ?_) (fun _ => ?_) | refine V_fA rfl rfl ?_ | refine V_fAN rfl rfl ?_ | refine V_D rfl ?_ | refine D_step rfl ?_ | refine D_nil' ?_ | refine D_gT' rfl ?_ | refine D_gU' rfl ?_ | refine D_gF' rfl rfl ?_ | refine D_gS rfl (fun _ => ?_) (fun _ => ?_)
  rw [← hz]
  rfl
theorem AccT_new {sz : Nat} {st : St} {v : PV} {es : List (List PV)} (h : AccT sz st v es) (k : Tok) : AccT sz (st.new k) v es := by
  rcases h with h | ⟨t, g, rfl, hg, hlt⟩
  · exact .inl h
  · exact .inr ⟨t, g, rfl, by rw [St.get_new_old hlt]; exact hg, by simp [St.new]; omega⟩
theorem Grow_new (st : St) (v : PV) (k : Tok) : Grow st v (st.new k) v := ⟨rfl, by simp [St.new], .inl rfl, fun u hu _ => St.get_new_old hu⟩
theorem AccT_lt {sz : Nat} {st : St} {v : PV} {es : List (List PV)} (h : AccT sz st v es) {t : Nat} (ht : tokOf v = some t) : t < st.next := by
  rcases h with ⟨rfl, _⟩ | ⟨t, g, rfl, hg, hlt⟩
  · cases ht
  · injection ht with ht; omega
theorem Grow_nil {st st' : St} {v v' : PV} {es : List (List PV)} (h : Grow st .nilSl st' v') (ha : AccT 1 st' v' es) (hne : es ≠ []) : Grow st v st' v' := by
  obtain ⟨n, h1, h2⟩ := AccT.none_fresh h ha hne
  exact ⟨h.1, h.2.1, .inr ⟨n, h1, h2⟩, fun u hu _ => h.2.2.2 u hu (by simp [tokOf])⟩
theorem putL_ne : ∀ n u, putL n u ≠ []
  | 0, u => by simp [putL]
  | n + 1, u => by unfold putL; split <;> simp
theorem putV_pos (v : Val) : putV v ≠ [] := by obtain ⟨k, n, s, l⟩ := v; simp [putV]
mutual
def nsV : Val → Bool
  | .mk k _ _ l => !decide (k = 2) && nsVs l
def nsVs : List Val → Bool
  | [] => true
  | v :: l => nsV v && nsVs l
end
theorem nsVs_get : ∀ {l : List Val}, nsVs l = true → ∀ {j : Nat} {v : Val}, l[j]? = some v → nsV v = true
  | [], _, j, v, h => by simp at h
  | x :: l, hl, j, v, h => by
    simp only [nsVs, Bool.and_eq_true] at hl
    cases j with
    | zero => simp at h; subst h; exact hl.1
    | succ j => exact nsVs_get hl.2 (by simpa using h)
def PutOk (v : Val) (cs : List PV) : Prop := ∀ (st : St) (b : PV) (s : List UInt8), st.base = st.next → AccT 1 st b (byteCells s) → s.length + (putV v).length ≤ 100000000000000 → ∃ b' st', T.R (.raw n_codec_put [b, .agg cs] st b' st') ∧ AccT 1 st' b' (byteCells (s ++ putV v)) ∧ Grow st b st' b'
def putsP (st : St) (v : PV) (bs : List UInt8) : EX → EC → St → Prop := fun x e' st' => x = .exit 1 ∧ ∃ v', e' = .put 0 v' .nil ∧ AccT 1 st' v' (byteCells bs) ∧ Grow st v st' v'
theorem puts_loop (l : List Val) (p : PV) (hp : LC l p) (ih : ∀ (j : Nat) (v : Val) (cs : List PV), l[j]? = some v → At 4 p j cs → PutOk v cs) :
    ∀ (rest pre : List Val) (e : EC) (st : St) (v : PV) (s : List UInt8), l = pre ++ rest → AccT 1 st v (byteCells s) → s.length + (putVs rest).length ≤ 100000000000000 → e.get 0 = some v → e.get 56 = some p → e.get 57 = some (.int .i64 l.length) → e.get 58 = some (.int .i64 pre.length) →
    V T (PE (putsP st v (s ++ putVs rest))) [.code (.loop lp_codec_put_0)] .normal e st := by
  obtain ⟨lp1, lp2, lp3⟩ := hp.len
  intro rest
  induction rest with
  | nil =>
    intro pre e st v s hl hA hs h0 h56 h57 h58
    have hlt : decide ((pre.length : Int) < l.length) = false := decide_eq_false (by subst hl; simp)
    have out : ∀ (fr : List Fr) (x : EX) (e' : EC), adv 200 fr x = ([], .exit 1) → e'.get 0 = some v → V T (PE (putsP st v (s ++ putVs []))) fr x e' st := fun fr x e' hadv g0 =>
      V_less (.put 0 v .nil) (less_put g0 less_nil) (V_endP hadv ⟨rfl, v, rfl, by simpa [putVs] using hA, .refl _ _⟩)
    refine V_less (.put 0 _ (.put 56 p (.put 57 _ (.put 58 _ .nil)))) (less_put h0 (less_put h56 (less_put h57 (less_put h58 less_nil)))) (V_unroll ?_)
    repeat' first | refine V_cH hlt rfl rfl ?_ | refine out _ _ _ rfl rfl | refine V_O rfl ?_ | refine O_step rfl ?_ | refine O_nil' ?_ | refine V_cT rfl rfl ?_ | refine V_cF rfl rfl ?_ | refine V_cEq rfl rfl ?_ | refine V_cNe rfl rfl ?_ | refine V_cB rfl rfl (fun _ => ?_) (fun _ => ?_) | refine O_gT' rfl ?_ | refine O_gU' rfl ?_ | refine O_gF' rfl rfl ?_ | refine O_gEq rfl ?_ | refine O_gNe rfl ?_ | refine O_gS rfl (fun _ => ?_) (fun _ => ?_) | refine V_fA rfl rfl ?_ | refine V_fAN rfl rfl ?_ | refine V_D rfl ?_ | refine D_step rfl ?_ | refine D_nil' ?_ | refine D_gT' rfl ?_ | refine D_gU' rfl ?_ | refine D_gF' rfl rfl ?_ | refine D_gS rfl (fun _ => ?_) (fun _ => ?_)
  | cons v0 rest ihr =>
    intro pre e st v s hl hA hs h0 h56 h57 h58
    have hlt : decide ((pre.length : Int) < l.length) = true := decide_eq_true (by subst hl; simp; omega)
    have hpl : pre.length + 1 ≤ l.length := by subst hl; simp
    have hv0 : l[pre.length]? = some v0 := by subst hl; simp
    obtain ⟨cs, hat, vc⟩ := hp.at hv0
    have hok := ih _ v0 cs hv0 hat
    have hsum : putVs (v0 :: rest) = putV v0 ++ putVs rest := rfl
    have hz : ([.int .i64 0, .int .i64 0, .str [], .nilSl] : List PV).length = cs.length := by rw [vc.len4]; rfl
    have hA1 : AccT 1 ((st.new (.var [.int .i64 0, .int .i64 0, .str [], .nilSl])).put st.next (.var cs)) v (byteCells s) := by
      rcases hA with h | ⟨t, g, rfl, hg, hlt⟩
      · exact .inl h
      · exact .inr ⟨t, g, rfl, by rw [St.get_put_old (by omega), St.get_new_old hlt]; exact hg, by simp [St.new, St.put]; omega⟩
    have hG1 : Grow st v ((st.new (.var [.int .i64 0, .int .i64 0, .str [], .nilSl])).put st.next (.var cs)) v := ⟨rfl, by simp [St.new, St.put], .inl rfl, fun u hu _ => by rw [St.get_put_old (by omega), St.get_new_old hu]⟩
    generalize hS : (st.new (.var [.int .i64 0, .int .i64 0, .str [], .nilSl])).put st.next (.var cs) = S at hA1 hG1
    have hgS : S.get st.next = some (.var cs) := by rw [← hS]; exact St.get_put
    obtain ⟨b', st', k1, k2, k3⟩ := hok ⟨S.next, S.next, S.toks⟩ v s rfl hA1 (by rw [hsum, List.length_append] at hs; omega)
    have hA2 : AccT 1 ⟨S.base, st'.next, st'.toks⟩ b' (byteCells (s ++ putV v0)) := k2
    have hG2 : Grow S v ⟨S.base, st'.next, st'.toks⟩ b' := ⟨rfl, k3.2.1, k3.2.2.1, k3.2.2.2⟩
    have hw : IntKind.i64.wrap ((pre.length : Int) + 1) = ((pre ++ [v0]).length : Int) := by rw [wrap_i64]; simp; omega
    have fin : ∀ (fr : List Fr) (x : EX) (e' : EC), adv 200 fr x = ([.code (.loop lp_codec_put_0)], .normal) → e'.get 0 = some b' → e'.get 56 = some p → e'.get 57 = some (.int .i64 l.length) → e'.get 58 = some (.int .i64 (IntKind.i64.wrap ((pre.length : Int) + 1))) → V T (PE (putsP st v (s ++ putVs (v0 :: rest)))) fr x e' ⟨S.base, st'.next, st'.toks⟩ := fun fr x e' hadv g0 g56 g57 g58 => V_adv hadv (by
      rw [hw] at g58
      refine V_monoP (ihr (pre ++ [v0]) e' _ b' (s ++ putV v0) (by rw [hl]; simp) hA2 (by rw [hsum, List.length_append] at hs; simp; omega) g0 g56 g57 g58) ?_
      rintro x e2 st2 ⟨hx, v2, he, hA3, hG3⟩
      refine ⟨hx, v2, he, ?_, hG1.trans (hG2.trans hG3)⟩
      rw [hsum, ← List.append_assoc]
      exact hA3)
    refine V_less (.put 0 _ (.put 56 p (.put 57 _ (.put 58 _ .nil)))) (less_put h0 (less_put h56 (less_put h57 (less_put h58 less_nil)))) (V_unroll ?_)
    clear ihr ih
    repeat' first | refine V_cHT hlt rfl rfl ?_ | refine O_at rfl rfl hat ?_ | refine O_loadA rfl vc.len4 ?_ | refine O_storeV (st' := S) rfl rfl vc.one vc.len4 rfl (by rw [← hS]; exact storeAt_whole St.get_new hz) ?_ | refine O_loadP rfl hgS vc.len4 ?_ | refine O_rawAll k1 k3.1 rfl rfl ?_ | refine fin _ _ _ rfl rfl rfl rfl rfl | refine O_step rfl ?_ | refine O_stepL rfl ?_ | refine V_O rfl ?_ | refine O_step rfl ?_ | refine O_nil' ?_ | refine V_cT rfl rfl ?_ | refine V_cF rfl rfl ?_ | refine V_cEq rfl rfl ?_ | refine V_cNe rfl rfl ?_ | refine V_cB rfl rfl (fun _ => ?_) (fun _ => ?_) | refine O_gT' rfl ?_ | refine O_gU' rfl ?_ | refine O_gF' rfl rfl ?_ | refine O_gEq rfl ?_ | refine O_gNe rfl ?_ | refine O_gS rfl (fun _ => ?_) (fun _ => ?_) | refine V_fA rfl rfl ?_ | refine V_fAN rfl rfl ?_ | refine V_D rfl ?_ | refine D_step rfl ?_ | refine D_nil' ?_ | refine D_gT' rfl ?_ | refine D_gU' rfl ?_ | refine D_gF' rfl rfl ?_ | refine D_gS rfl (fun _ => ?_) (fun _ => ?_)
theorem wrap8' (n : Int) : [[PV.int .u8 (IntKind.u8.wrap n)]] = byteCells [UInt8.ofNat (n % 256).toNat] := by
  rw [wrap_u8]
  have h1 : n % 256 = (((n % 256).toNat : Nat) : Int) := by omega
  have h2 : (n % 256).toNat < 256 := by omega
  simp [byteCells]
  omega
theorem I64.nat {n : Int} (h : I64 n) : IntKind.u64.wrap n = ((n % 18446744073709551616).toNat : Int) := by rw [wrap_u64]; omega
set_option maxHeartbeats 4000000 in
theorem put_step (k n : Int) (s : List UInt8) (l : List Val) (p : PV) (hk : I64 k) (hn : I64 n) (hs : s.length ≤ 140737488355328) (hp : LC l p) (hk2 : k ≠ 2) (ih : ∀ (j : Nat) (v : Val) (cs : List PV), l[j]? = some v → At 4 p j cs → PutOk v cs) : PutOk (.mk k n s l) [.int .i64 k, .int .i64 n, .str s, p] := by
  intro st b bs hbn hA hlen
  obtain ⟨lp1, lp2, lp3⟩ := hp.len
  have plp := hp.pl
  obtain ⟨kb, hkd⟩ : ∃ kb, UInt8.ofNat (k % 256).toNat = kb := ⟨_, rfl⟩
  have hkb := wrap8' k
  rw [hkd] at hkb
  have hA1 := AccT_new hA (.var [.int .i64 k, .int .i64 n, .str s, p])
  have hG1 := Grow_new st b (.var [.int .i64 k, .int .i64 n, .str s, p])
  have hg1 : (st.new (.var [.int .i64 k, .int .i64 n, .str s, p])).get st.next = some (.var [.int .i64 k, .int .i64 n, .str s, p]) := St.get_new
  have hnx : (st.new (.var [.int .i64 k, .int .i64 n, .str s, p])).next = st.next + 1 := rfl
  have hbt : tokOf b ≠ some st.next := fun h => by have := AccT_lt hA h; omega
  generalize hS : st.new (.var [.int .i64 k, .int .i64 n, .str s, p]) = S1 at hA1 hG1 hg1 hnx
  have hl1 : bs.length + 1 ≤ 100000000000000 := by simp [putV] at hlen; omega
  obtain ⟨v2, S2, k1, hA2, hG2⟩ := hA1.grow (bytes := 1) (src := byteCells [kb]) (by simp [byteCells]) (by simp only [byteCells_length, roomLen]; simp; omega)
  rw [← byteCells_append] at hA2
  have hg2 : S2.get st.next = some (.var [.int .i64 k, .int .i64 n, .str s, p]) := by rw [hG2.2.2.2 st.next (by omega) hbt]; exact hg1
  have hG02 := hG1.trans hG2
  have hrb2 : RB ⟨S2.next, S2.next, S2.toks⟩ v2 (bs ++ [kb]) := (AccT.rb (st := S2) hA2).keep (Nat.le_refl _) (fun _ _ => rfl)
  have num : ∀ u : Nat, u < 18446744073709551616 → ∃ v3 S3, T.R (.raw n_num_Put [v2, .int .u64 u] ⟨S2.next, S2.next, S2.toks⟩ v3 S3) ∧ S3.base = S2.next ∧ AccT 1 ⟨S2.base, S3.next, S3.toks⟩ v3 (byteCells (bs ++ [kb] ++ putL 9 u)) ∧ Grow st b ⟨S2.base, S3.next, S3.toks⟩ v3 ∧ (∀ t, t < S2.next → (⟨S2.base, S3.next, S3.toks⟩ : St).get t = S2.get t) := fun u hu => by
    obtain ⟨v3, S3, h1, h2, h3⟩ := putG (st := ⟨S2.next, S2.next, S2.toks⟩) rfl hrb2 (by simp; omega) u hu
    refine ⟨v3, S3, h1, h3.1, h2, hG02.trans (Grow_nil (st' := ⟨S2.base, S3.next, S3.toks⟩) ⟨rfl, h3.2.1, h3.2.2.1, h3.2.2.2⟩ h2 ?_), fun t ht => h3.2.2.2 t ht (by simp [tokOf])⟩
    simp [byteCells, putL_ne]
  by_cases hk1 : k = 1
  · subst hk1
    obtain ⟨v3, S3, h1, h2, h3, h4, h5⟩ := num (zigN n) (by unfold zigN; obtain ⟨a, b⟩ := hn; split <;> omega)
    have hz := run_Zig hn
    have hpv : putV (.mk 1 n s l) = kb :: putL 9 (zigN n) := by simp only [putV, hkd]; simp
    refine raw_VQ rfl rfl ?_
    repeat' first | refine O_append (src := byteCells [kb]) rfl rfl (by rw [← hkb]; rfl) (okEls_bytes _) (by decide) (by decide) (by subst hS; exact k1) ?_ | refine O_loadV rfl St.get_new rfl ?_ | refine O_loadV rfl hg2 rfl ?_ | refine O_cA rfl rfl hz ?_ | refine O_rawAll h1 h2 rfl rfl ?_ | refine V_finRQ rfl rfl ?_ | refine O_step rfl ?_ | refine O_stepL rfl ?_ | refine V_O rfl ?_ | refine O_step rfl ?_ | refine O_nil' ?_ | refine V_cT rfl rfl ?_ | refine V_cF rfl rfl ?_ | refine V_cEq rfl rfl ?_ | refine V_cNe rfl rfl ?_ | refine V_cB rfl rfl (fun _ => ?_) (fun _ => ?_) | refine O_gT' rfl ?_ | refine O_gU' rfl ?_ | refine O_gF' rfl rfl ?_ | refine O_gEq rfl ?_ | refine O_gNe rfl ?_ | refine O_gS rfl (fun _ => ?_) (fun _ => ?_) | refine V_fA rfl rfl ?_ | refine V_fAN rfl rfl ?_ | refine V_D rfl ?_ | refine D_step rfl ?_ | refine D_nil' ?_ | refine D_gT' rfl ?_ | refine D_gU' rfl ?_ | refine D_gF' rfl rfl ?_ | refine D_gS rfl (fun _ => ?_) (fun _ => ?_)
    rw [hpv, List.append_cons]
    exact ⟨h3, h4⟩
  by_cases hk6 : k = 6
  · subst hk6
    obtain ⟨v3, S3, h1, h2, h3, h4, h5⟩ := num (n % 18446744073709551616).toNat (by omega)
    rw [← hn.nat] at h1
    have hpv : putV (.mk 6 n s l) = kb :: putL 9 (n % 18446744073709551616).toNat := by simp only [putV, hkd]; simp
    refine raw_VQ rfl rfl ?_
    repeat' first | refine O_append (src := byteCells [kb]) rfl rfl (by rw [← hkb]; rfl) (okEls_bytes _) (by decide) (by decide) (by subst hS; exact k1) ?_ | refine O_loadV rfl St.get_new rfl ?_ | refine O_loadV rfl hg2 rfl ?_ | refine O_rawAll h1 h2 rfl rfl ?_ | refine V_finRQ rfl rfl ?_ | refine O_step rfl ?_ | refine O_stepL rfl ?_ | refine V_O rfl ?_ | refine O_step rfl ?_ | refine O_nil' ?_ | refine V_cT rfl rfl ?_ | refine V_cF rfl rfl ?_ | refine V_cEq rfl rfl ?_ | refine V_cNe rfl rfl ?_ | refine V_cB rfl rfl (fun _ => ?_) (fun _ => ?_) | refine O_gT' rfl ?_ | refine O_gU' rfl ?_ | refine O_gF' rfl rfl ?_ | refine O_gEq rfl ?_ | refine O_gNe rfl ?_ | refine O_gS rfl (fun _ => ?_) (fun _ => ?_) | refine V_fA rfl rfl ?_ | refine V_fAN rfl rfl ?_ | refine V_D rfl ?_ | refine D_step rfl ?_ | refine D_nil' ?_ | refine D_gT' rfl ?_ | refine D_gU' rfl ?_ | refine D_gF' rfl rfl ?_ | refine D_gS rfl (fun _ => ?_) (fun _ => ?_)
    rw [hpv, List.append_cons]
    exact ⟨h3, h4⟩
  by_cases hk7 : k = 7
  · subst hk7
    obtain ⟨v3, S3, h1, h2, h3, h4, h5⟩ := num (n % 18446744073709551616).toNat (by omega)
    rw [← hn.nat] at h1
    have hpv : putV (.mk 7 n s l) = kb :: putL 9 (n % 18446744073709551616).toNat := by simp only [putV, hkd]; simp
    refine raw_VQ rfl rfl ?_
    repeat' first | refine O_append (src := byteCells [kb]) rfl rfl (by rw [← hkb]; rfl) (okEls_bytes _) (by decide) (by decide) (by subst hS; exact k1) ?_ | refine O_loadV rfl St.get_new rfl ?_ | refine O_loadV rfl hg2 rfl ?_ | refine O_rawAll h1 h2 rfl rfl ?_ | refine V_finRQ rfl rfl ?_ | refine O_step rfl ?_ | refine O_stepL rfl ?_ | refine V_O rfl ?_ | refine O_step rfl ?_ | refine O_nil' ?_ | refine V_cT rfl rfl ?_ | refine V_cF rfl rfl ?_ | refine V_cEq rfl rfl ?_ | refine V_cNe rfl rfl ?_ | refine V_cB rfl rfl (fun _ => ?_) (fun _ => ?_) | refine O_gT' rfl ?_ | refine O_gU' rfl ?_ | refine O_gF' rfl rfl ?_ | refine O_gEq rfl ?_ | refine O_gNe rfl ?_ | refine O_gS rfl (fun _ => ?_) (fun _ => ?_) | refine V_fA rfl rfl ?_ | refine V_fAN rfl rfl ?_ | refine V_D rfl ?_ | refine D_step rfl ?_ | refine D_nil' ?_ | refine D_gT' rfl ?_ | refine D_gU' rfl ?_ | refine D_gF' rfl rfl ?_ | refine D_gS rfl (fun _ => ?_) (fun _ => ?_)
    rw [hpv, List.append_cons]
    exact ⟨h3, h4⟩
  by_cases hk3 : k = 3
  · subst hk3
    obtain ⟨v3, S3, k4, h3, h4⟩ := hA2.grow (bytes := 1) (src := byteCells [UInt8.ofNat (n % 256).toNat]) (by simp [byteCells]) (by simp only [byteCells_length, roomLen]; simp; omega)
    rw [← byteCells_append] at h3
    have hpv : putV (.mk 3 n s l) = kb :: [UInt8.ofNat (n % 256).toNat] := by simp only [putV, hkd]; simp
    refine raw_VQ rfl rfl ?_
    repeat' first | refine O_append (src := byteCells [kb]) rfl rfl (by rw [← hkb]; rfl) (okEls_bytes _) (by decide) (by decide) (by subst hS; exact k1) ?_ | refine O_loadV rfl St.get_new rfl ?_ | refine O_loadV rfl hg2 rfl ?_ | refine O_append (src := byteCells [UInt8.ofNat (n % 256).toNat]) rfl rfl (by rw [← wrap8' n]; rfl) (okEls_bytes _) (by decide) (by decide) k4 ?_ | refine V_finRQ rfl rfl ?_ | refine O_step rfl ?_ | refine O_stepL rfl ?_ | refine V_O rfl ?_ | refine O_step rfl ?_ | refine O_nil' ?_ | refine V_cT rfl rfl ?_ | refine V_cF rfl rfl ?_ | refine V_cEq rfl rfl ?_ | refine V_cNe rfl rfl ?_ | refine V_cB rfl rfl (fun _ => ?_) (fun _ => ?_) | refine O_gT' rfl ?_ | refine O_gU' rfl ?_ | refine O_gF' rfl rfl ?_ | refine O_gEq rfl ?_ | refine O_gNe rfl ?_ | refine O_gS rfl (fun _ => ?_) (fun _ => ?_) | refine V_fA rfl rfl ?_ | refine V_fAN rfl rfl ?_ | refine V_D rfl ?_ | refine D_step rfl ?_ | refine D_nil' ?_ | refine D_gT' rfl ?_ | refine D_gU' rfl ?_ | refine D_gF' rfl rfl ?_ | refine D_gS rfl (fun _ => ?_) (fun _ => ?_)
    rw [hpv, List.append_cons]
    exact ⟨h3, hG02.trans h4⟩
  · obtain ⟨v3, S3, h1, h2, h3, h4, h5⟩ := num l.length (by omega)
    have hwl : IntKind.u64.wrap (l.length : Int) = (l.length : Int) := by rw [wrap_u64]; omega
    rw [← hwl] at h1
    have hpv : putV (.mk k n s l) = kb :: (putL 9 l.length ++ putVs l) := by simp only [putV, hkd]; simp [hk1, hk6, hk7, hk3, hk2]
    have hg3 : (⟨S2.base, S3.next, S3.toks⟩ : St).get st.next = some (.var [.int .i64 k, .int .i64 n, .str s, p]) := by
      have hlt2 : st.next < S2.next := by have := hG2.2.1; omega
      rw [h5 st.next hlt2]
      exact hg2
    have hloop := fun e h0 h56 h57 h58 => puts_loop l p hp ih l [] e ⟨S2.base, S3.next, S3.toks⟩ v3 (bs ++ [kb] ++ putL 9 l.length) rfl h3 (by rw [hpv] at hlen; simp at hlen ⊢; omega) h0 h56 h57 h58
    refine raw_VQ rfl rfl ?_
    repeat' first | refine V_cH (decide_eq_false hk1) rfl rfl ?_ | refine V_cH (decide_eq_false hk6) rfl rfl ?_ | refine V_cH (decide_eq_false hk7) rfl rfl ?_ | refine V_cH (decide_eq_false hk3) rfl rfl ?_ | refine V_cH (decide_eq_false hk2) rfl rfl ?_ | refine O_append (src := byteCells [kb]) rfl rfl (by rw [← hkb]; rfl) (okEls_bytes _) (by decide) (by decide) (by subst hS; exact k1) ?_ | refine O_loadV rfl St.get_new rfl ?_ | refine O_loadV rfl hg2 rfl ?_ | refine O_loadV rfl hg3 rfl ?_ | refine O_lenO rfl lp1 lp2 ?_ | refine O_rawAll h1 h2 rfl rfl ?_ | refine V_cutA rfl (hloop _ rfl rfl rfl rfl) ?_ | refine V_finRQ rfl rfl ?_ | refine O_step rfl ?_ | refine O_stepL rfl ?_ | refine V_O rfl ?_ | refine O_step rfl ?_ | refine O_nil' ?_ | refine V_cT rfl rfl ?_ | refine V_cF rfl rfl ?_ | refine V_cEq rfl rfl ?_ | refine V_cNe rfl rfl ?_ | refine V_cB rfl rfl (fun _ => ?_) (fun _ => ?_) | refine O_gT' rfl ?_ | refine O_gU' rfl ?_ | refine O_gF' rfl rfl ?_ | refine O_gEq rfl ?_ | refine O_gNe rfl ?_ | refine O_gS rfl (fun _ => ?_) (fun _ => ?_) | refine V_fA rfl rfl ?_ | refine V_fAN rfl rfl ?_ | refine V_D rfl ?_ | refine D_step rfl ?_ | refine D_nil' ?_ | refine D_gT' rfl ?_ | refine D_gU' rfl ?_ | refine D_gF' rfl rfl ?_ | refine D_gS rfl (fun _ => ?_) (fun _ => ?_)
    rintro x e' st' ⟨rfl, v', rfl, hA5, hG5⟩
    repeat' first | refine V_finRQ rfl rfl ?_ | refine O_step rfl ?_ | refine O_stepL rfl ?_ | refine V_O rfl ?_ | refine O_step rfl ?_ | refine O_nil' ?_ | refine V_cT rfl rfl ?_ | refine V_cF rfl rfl ?_ | refine V_cEq rfl rfl ?_ | refine V_cNe rfl rfl ?_ | refine V_cB rfl rfl (fun _ => ?_) (fun _ => ?_) | refine O_gT' rfl ?_ | refine O_gU' rfl ?_ | refine O_gF' rfl rfl ?_ | refine O_gEq rfl ?_ | refine O_gNe rfl ?_ | refine O_gS rfl (fun _ => ?_) (fun _ => ?_) | refine V_fA rfl rfl ?_ | refine V_fAN rfl rfl ?_ | refine V_D rfl ?_ | refine D_step rfl ?_ | refine D_nil' ?_ | refine D_gT' rfl ?_ | refine D_gU' rfl ?_ | refine D_gF' rfl rfl ?_ | refine D_gS rfl (fun _ => ?_) (fun _ => ?_)
    rw [hpv]
    refine ⟨?_, h4.trans hG5⟩
    have : bs ++ kb :: (putL 9 l.length ++ putVs l) = bs ++ [kb] ++ putL 9 l.length ++ putVs l := by simp
    rw [this]
    exact hA5
theorem put_raw {v : Val} {cs : List PV} (hv : VC v cs) : nsV v = true → PutOk v cs := by
  refine VC.ind (M := fun v cs => nsV v = true → PutOk v cs) ?_ hv
  intro k n s l p hk hn hs hp ih hns
  simp only [nsV, Bool.and_eq_true, Bool.not_eq_true', decide_eq_false_iff_not] at hns
  exact put_step k n s l p hk hn hs hp hns.1 (fun j v cs hj ha => ih j v cs hj ha (nsVs_get hns.2 hj))
end Go.Proofs.YtfdebgebnkbagaaDoor

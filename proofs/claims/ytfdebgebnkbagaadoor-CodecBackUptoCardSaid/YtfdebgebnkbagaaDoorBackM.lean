/- CodecBack, over plain values. -/
import Derived.Test.YtfdebgebnkbagaaDoorBackL
set_option linter.unusedVariables false
set_option linter.unusedSimpArgs false
namespace Go.Proofs.YtfdebgebnkbagaaDoor
open Go Go.AM Go.RowKit
def sndPC : PC → PC
  | .seq _ b => b
  | c => c
def backC (n : Nat) : PC := (List.range n).foldl (fun c _ => sndPC c) pf_ramblelaw03_CodecBack.body
def boxSt (cs : List PV) : St := ⟨0, 1, [(0, .var cs)]⟩
theorem back5 {p q : PV} {b : List UInt8} (hp : Pl p) (hq : BV q b) (hb : b.length ≤ 1073741824) (cs : List PV) : ∀ (fr : List Fr) (x : EX), adv 200 fr x = adv 200 [.code (backC 5)] .normal → V T (Go.AM.Ends pf_ramblelaw03_CodecBack (· = PV.bool true)) fr x (ecOf [(0, p), (2, q), (4, .ptr 0 0)]) (boxSt cs) := by
  intro fr x hadv
  have plq := hq.pl
  rcases run_Values hq hb with ⟨l, X, h1, hX, hv⟩ | ⟨e, h1, hv⟩
  · have plX := hX.pl
    have hk := key_vals _ _ _ (Nat.le_refl _) hb h1
    have hll : l.length ≤ 1073741824 := by
      have h2 := (keyR_flat hk).1
      have h3 := flat_len' l
      rw [← h2] at h3
      omega
    obtain ⟨P, hP, hkey⟩ := run_Key l X hX hll
    have hkb : keyB l = b := by simp [keyB, hk]
    have hke : keyE l = 0 := by simp [keyE, hk]
    rw [hkb] at hP
    rw [hke] at hkey
    have plP := hP.pl
    have heq := run_Equal hP hq
    rw [decide_eq_true rfl] at heq
    refine V_adv (hadv.trans rfl) ?_
    repeat' first | refine O_cA rfl rfl hv ?_ | refine O_cA rfl rfl hkey ?_ | refine O_cA rfl rfl heq ?_ | refine O_step rfl ?_ | refine V_O rfl ?_ | refine O_step rfl ?_ | refine O_nil' ?_ | refine V_cT rfl rfl ?_ | refine V_cF rfl rfl ?_ | refine V_cEq rfl rfl ?_ | refine V_cNe rfl rfl ?_ | refine V_cB rfl rfl (fun _ => ?_) (fun _ => ?_) | refine O_gT' rfl ?_ | refine O_gU' rfl ?_ | refine O_gF' rfl rfl ?_ | refine O_gEq rfl ?_ | refine O_gNe rfl ?_ | refine O_gS rfl (fun _ => ?_) (fun _ => ?_) | refine V_fA rfl rfl ?_ | refine V_fAN rfl rfl ?_ | refine V_D rfl ?_ | refine D_step rfl ?_ | refine D_nil' ?_ | refine D_gT' rfl ?_ | refine D_gU' rfl ?_ | refine D_gF' rfl rfl ?_ | refine D_gS rfl (fun _ => ?_) (fun _ => ?_)
    rfl
  · have hne := valsR_err0 _ _ _ h1
    refine V_adv (hadv.trans rfl) ?_
    repeat' first | refine O_cA rfl rfl hv ?_ | refine O_is (ndec_not hne) rfl ?_ | refine O_step rfl ?_ | refine V_O rfl ?_ | refine O_step rfl ?_ | refine O_nil' ?_ | refine V_cT rfl rfl ?_ | refine V_cF rfl rfl ?_ | refine V_cEq rfl rfl ?_ | refine V_cNe rfl rfl ?_ | refine V_cB rfl rfl (fun _ => ?_) (fun _ => ?_) | refine O_gT' rfl ?_ | refine O_gU' rfl ?_ | refine O_gF' rfl rfl ?_ | refine O_gEq rfl ?_ | refine O_gNe rfl ?_ | refine O_gS rfl (fun _ => ?_) (fun _ => ?_) | refine V_fA rfl rfl ?_ | refine V_fAN rfl rfl ?_ | refine V_D rfl ?_ | refine D_step rfl ?_ | refine D_nil' ?_ | refine D_gT' rfl ?_ | refine D_gU' rfl ?_ | refine D_gF' rfl rfl ?_ | refine D_gS rfl (fun _ => ?_) (fun _ => ?_)
    rfl
theorem bel_box {cs : List PV} (h : ∀ c ∈ cs, Pl c) {st : St} (hg : st.get 0 = some (.var cs)) : ∀ x ∈ (boxSt cs).toks, x.1 < (boxSt cs).next ∧ BelTok (boxSt cs).next x.2 ∧ st.get x.1 = some x.2 := by
  intro x hx
  rcases List.mem_cons.1 hx with rfl | hx
  · exact ⟨by show 0 < 1; omega, fun c hc => (h c hc).bel, hg⟩
  · cases hx
theorem fg3 {p q : PV} {ρ : EC} (hp : Pl p) (hq : Pl q) (h0 : ρ.get 0 = some p) (h2 : ρ.get 2 = some q) (h4 : ρ.get 4 = some (.ptr 0 0)) : ∀ x ∈ [(0, p), (2, q), (4, PV.ptr 0 0)], ρ.get x.1 = some x.2 ∧ Bel 1 x.2 :=
  fg_cons h0 hp.bel (fg_cons h2 hq.bel (fg_cons h4 (.ptr _ _ (by omega)) fg_nil))
theorem back4 {p q : PV} {b : List UInt8} (hp : Pl p) (hq : BV q b) (hb : b.length ≤ 1073741824) (cs : List PV) (hcs : ∀ c ∈ cs, Pl c) : ∀ (fr : List Fr) (x : EX), adv 200 fr x = adv 200 [.code (backC 4)] .normal → V T (Go.AM.Ends pf_ramblelaw03_CodecBack (· = PV.bool true)) fr x (ecOf [(0, p), (2, q), (4, .ptr 0 0)]) (boxSt cs) := by
  intro fr x hadv
  have plq := hq.pl
  rcases run_Parse hq hb with ⟨e, hne, hv⟩ | ⟨v, vs, hr, hm, hvc, hv⟩
  · have fin : ∀ (fr : List Fr) (x : EX) (ρ : EC) (st : St) (c : PC) (k : List Fr), adv 200 fr x = (.code c :: k, .normal) → adv 200 (.code c :: k) .normal = adv 200 [.code (backC 5)] .normal → ρ.get 0 = some p → ρ.get 2 = some q → ρ.get 4 = some (.ptr 0 0) → st.get 0 = some (.var cs) → st.base = 0 → 1 ≤ st.next → V T (Go.AM.Ends pf_ramblelaw03_CodecBack (· = PV.bool true)) fr x ρ st := fun fr x ρ st c k h1 h2 g0 g2 g4 hg hb0 hn =>
      V_adv h1 (V_forget _ (boxSt cs) (fg3 hp plq g0 g2 g4) hb0.symm ⟨Nat.zero_le _, hn⟩ (bel_box hcs hg) (back5 hp hq hb cs _ _ h2))
    refine V_adv (hadv.trans rfl) ?_
    repeat' first | refine fin _ _ _ _ _ _ rfl rfl rfl rfl rfl rfl rfl (Nat.le_of_ble_eq_true rfl) | refine O_cA rfl rfl hv ?_ | refine O_is (dec_not hne) rfl ?_ | refine O_is (ndec_not hne) rfl ?_ | refine O_step rfl ?_ | refine O_stepL rfl ?_ | refine V_O rfl ?_ | refine O_step rfl ?_ | refine O_nil' ?_ | refine V_cT rfl rfl ?_ | refine V_cF rfl rfl ?_ | refine V_cEq rfl rfl ?_ | refine V_cNe rfl rfl ?_ | refine V_cB rfl rfl (fun _ => ?_) (fun _ => ?_) | refine O_gT' rfl ?_ | refine O_gU' rfl ?_ | refine O_gF' rfl rfl ?_ | refine O_gEq rfl ?_ | refine O_gNe rfl ?_ | refine O_gS rfl (fun _ => ?_) (fun _ => ?_) | refine V_fA rfl rfl ?_ | refine V_fAN rfl rfl ?_ | refine V_D rfl ?_ | refine D_step rfl ?_ | refine D_nil' ?_ | refine D_gT' rfl ?_ | refine D_gU' rfl ?_ | refine D_gF' rfl rfl ?_ | refine D_gS rfl (fun _ => ?_) (fun _ => ?_)
  · have fin : ∀ (fr : List Fr) (x : EX) (ρ : EC) (st : St) (c : PC) (k : List Fr), adv 200 fr x = (.code c :: k, .normal) → adv 200 (.code c :: k) .normal = adv 200 [.code (backC 5)] .normal → ρ.get 0 = some p → ρ.get 2 = some q → ρ.get 4 = some (.ptr 0 0) → st.get 0 = some (.var cs) → st.base = 0 → 1 ≤ st.next → V T (Go.AM.Ends pf_ramblelaw03_CodecBack (· = PV.bool true)) fr x ρ st := fun fr x ρ st c k h1 h2 g0 g2 g4 hg hb0 hn =>
      V_adv h1 (V_forget _ (boxSt cs) (fg3 hp plq g0 g2 g4) hb0.symm ⟨Nat.zero_le _, hn⟩ (bel_box hcs hg) (back5 hp hq hb cs _ _ h2))
    have hpv : putV v = b := by rw [put_read hr, List.take_of_length_le (Nat.le_refl _)]
    have hput := run_PutMay hvc hm (by rw [hpv]; omega)
    rw [hpv] at hput
    have heq := run_Equal (BV.sl b false) hq
    rw [decide_eq_true rfl] at heq
    have plv := hvc.pl
    have plb := (BV.sl b false).pl
    have hl4 := hvc.len4
    have h1 := hvc.one
    have hz : ([.int .i64 0, .int .i64 0, .str [], .nilSl] : List PV).length = vs.length := by rw [hl4]; rfl
    let S : St := (boxSt cs).new (.var [.int .i64 0, .int .i64 0, .str [], .nilSl])
    have hst : storeAt S (.ptr 1 0) (.agg vs) = some (S.put 1 (.var vs)) := storeAt_whole rfl hz
    have hg1 : (S.put 1 (.var vs)).get 1 = some (.var vs) := rfl
    refine V_adv (hadv.trans rfl) ?_
    repeat' first | refine fin _ _ _ _ _ _ rfl rfl rfl rfl rfl rfl rfl (Nat.le_of_ble_eq_true rfl) | refine O_cA rfl rfl hv ?_ | refine O_storeV rfl rfl h1 hl4 rfl hst ?_ | refine O_loadP rfl hg1 hl4 ?_ | refine O_cA rfl rfl hput ?_ | refine O_cA rfl rfl heq ?_ | refine O_step rfl ?_ | refine O_stepL rfl ?_ | refine V_O rfl ?_ | refine O_step rfl ?_ | refine O_nil' ?_ | refine V_cT rfl rfl ?_ | refine V_cF rfl rfl ?_ | refine V_cEq rfl rfl ?_ | refine V_cNe rfl rfl ?_ | refine V_cB rfl rfl (fun _ => ?_) (fun _ => ?_) | refine O_gT' rfl ?_ | refine O_gU' rfl ?_ | refine O_gF' rfl rfl ?_ | refine O_gEq rfl ?_ | refine O_gNe rfl ?_ | refine O_gS rfl (fun _ => ?_) (fun _ => ?_) | refine V_fA rfl rfl ?_ | refine V_fAN rfl rfl ?_ | refine V_D rfl ?_ | refine D_step rfl ?_ | refine D_nil' ?_ | refine D_gT' rfl ?_ | refine D_gU' rfl ?_ | refine D_gF' rfl rfl ?_ | refine D_gS rfl (fun _ => ?_) (fun _ => ?_)
set_option maxHeartbeats 4000000 in
theorem back3 {p q : PV} {b : List UInt8} (hp : Pl p) (hq : BV q b) (hb : b.length ≤ 1048576) (v : Val) (cs : List PV) (hvc : VC v cs) (hsz : sizeV v ≤ 1048576) : ∀ (fr : List Fr) (x : EX), adv 200 fr x = adv 200 [.code (backC 3)] .normal → V T (Go.AM.Ends pf_ramblelaw03_CodecBack (· = PV.bool true)) fr x (ecOf [(0, p), (2, q), (4, .ptr 0 0)]) (boxSt cs) := by
  intro fr x hadv
  have plq := hq.pl
  have hcs := hvc.pl
  have hl4 := hvc.len4
  have hchk := run_Check2 hvc
  have fin : ∀ (fr : List Fr) (x : EX) (ρ : EC) (st : St) (c : PC) (k : List Fr), adv 200 fr x = (.code c :: k, .normal) → adv 200 (.code c :: k) .normal = adv 200 [.code (backC 4)] .normal → ρ.get 0 = some p → ρ.get 2 = some q → ρ.get 4 = some (.ptr 0 0) → st.get 0 = some (.var cs) → st.base = 0 → 1 ≤ st.next → V T (Go.AM.Ends pf_ramblelaw03_CodecBack (· = PV.bool true)) fr x ρ st := fun fr x ρ st c k h1 h2 g0 g2 g4 hg hb0 hn =>
    V_adv h1 (V_forget _ (boxSt cs) (fg3 hp plq g0 g2 g4) hb0.symm ⟨Nat.zero_le _, hn⟩ (bel_box hcs hg) (back4 hp hq (by omega) cs hcs _ _ h2))
  by_cases hm : mayV 8 v = true
  · have hc0 : chk v = 0 := by simp [chk, hm]
    rw [hc0] at hchk
    have hpl : (putV v).length ≤ 11534336 := by have := putV_size v; omega
    have hput := run_PutMay hvc hm (by omega)
    have plb := (BV.sl (putV v) false).pl
    have hpos := putV_pos v
    have hg0 : (boxSt cs).get 0 = some (.var cs) := rfl
    obtain ⟨v1, S1, hraw, hA1, hG1⟩ := cloneG (st := ⟨1, 1, (boxSt cs).toks⟩) ((BV.sl (putV v) false).rb _) (by omega)
    have hne1 : byteCells (putV v) ≠ [] := by simp [byteCells, hpos]
    obtain ⟨t1, ht1, ht1'⟩ := AccT.none_fresh hG1 hA1 hne1
    have ht1'' : 1 ≤ t1 := ht1'
    have hA1' : AccT 1 ⟨0, S1.next, S1.toks⟩ v1 (byteCells (putV v)) := hA1
    obtain ⟨v2, S2, happ, hA2, hG2⟩ := AccT_appendAny hA1' b (by omega)
    have hS1n : 1 ≤ S1.next := hG1.2.1
    have hS10 : (⟨0, S1.next, S1.toks⟩ : St).get 0 = some (.var cs) := (hG1.2.2.2 0 (by show 0 < 1; omega) (by simp [tokOf])).trans rfl
    have hS20 : S2.get 0 = some (.var cs) := (hG2.2.2.2 0 (by show 0 < S1.next; omega) (by rw [ht1]; intro h; injection h with h; omega)).trans hS10
    have hS2b : S2.base = 0 := hG2.1
    have hS2n : 1 ≤ S2.next := Nat.le_trans hS1n hG2.2.1
    have hsrc : srcOf (⟨0, S1.next, S1.toks⟩ : St) q = some (byteCells b) := (hq.rb _).src
    rcases hA2 with ⟨_, h⟩ | ⟨t, g, rfl, hgt, hlt⟩
    · exact absurd h (by simp [byteCells, hpos])
    have ht0 : t ≠ 0 := by
      intro h
      subst h
      rw [hS20] at hgt
      cases hgt
    have hrd := read_put hvc hm b
    have plr := (BV.sl (putV v ++ b) false).pl
    rcases run_Read (BV.sl (putV v ++ b) false) (by rw [List.length_append]; omega) with ⟨e, he, _⟩ | ⟨v', n, vs, hv', hvc', hcall⟩
    · rw [hrd] at he; cases he
    rw [hrd] at hv'
    injection hv' with h1 h2
    subst h1 h2
    have hsame := run_Same hvc' hvc
    rw [decide_eq_true (cmpV_self _)] at hsame
    have plv := hvc'.pl
    have hl4' := hvc'.len4
    have hone' := hvc'.one
    let S : St := ⟨0, S2.next, [(0, .var cs), (t, .row g 1 (byteCells (putV v ++ b)) false)]⟩
    have hSt : S.get t = some (.row g 1 (byteCells (putV v ++ b)) false) := by
      show getA t _ = _
      show getA t [(0, Tok.var cs), (t, .row g 1 (byteCells (putV v ++ b)) false)] = _
      unfold getA
      rw [if_neg (fun e => ht0 e.symm)]
      unfold getA
      rw [if_pos rfl]
    have htoks : ∀ x ∈ S.toks, x.1 < S.next ∧ BelTok S.next x.2 ∧ (S2.get x.1 = some x.2 ∨ ∃ g sz es, x.2 = .row g sz es false ∧ S2.get x.1 = some (.row g sz es true)) := by
      intro x hx
      rcases List.mem_cons.1 hx with rfl | hx
      · exact ⟨hS2n, fun c hc => (hcs c hc).bel, .inl hS20⟩
      · rcases List.mem_cons.1 hx with rfl | hx
        · exact ⟨hlt, fun cs hcs c hc => (pl_bytes _ cs hcs c hc).bel, .inr ⟨_, _, _, rfl, hgt⟩⟩
        · cases hx
    have hvw : ViewL false S.get [.osl t g 0 (byteCells (putV v ++ b)).length false] [.sl (byteCells (putV v ++ b)) false] := viewL_cons (view_osl0 hSt (.inr rfl) rfl (pl_bytes _)) viewL_nil
    have hz : ([.int .i64 0, .int .i64 0, .str [], .nilSl] : List PV).length = vs.length := by rw [hl4']; rfl
    have hst : storeAt (S.new (.var [.int .i64 0, .int .i64 0, .str [], .nilSl])) (.ptr S2.next 0) (.agg vs) = some ((S.new (.var [.int .i64 0, .int .i64 0, .str [], .nilSl])).put S2.next (.var vs)) := storeAt_whole St.get_new hz
    have hN : ((S.new (.var [.int .i64 0, .int .i64 0, .str [], .nilSl])).put S2.next (.var vs)).get S2.next = some (.var vs) := St.get_put
    have h0' : ((S.new (.var [.int .i64 0, .int .i64 0, .str [], .nilSl])).put S2.next (.var vs)).get 0 = some (.var cs) := by
      rw [St.get_put_old (by omega), St.get_new_old (by exact hS2n)]
      rfl
    have hfg : ∀ (ρ : EC), ρ.get 0 = some p → ρ.get 2 = some q → ρ.get 4 = some (.ptr 0 0) → ρ.get 11 = some (.sl (byteCells (putV v)) false) → ρ.get 52 = some (.osl t g 0 (byteCells (putV v ++ b)).length false) → ∀ x ∈ [(0, p), (2, q), (4, PV.ptr 0 0), (11, .sl (byteCells (putV v)) false), (52, .osl t g 0 (byteCells (putV v ++ b)).length false)], ρ.get x.1 = some x.2 ∧ Bel S.next x.2 := fun ρ g0 g2 g4 g11 g52 =>
      fg_cons g0 hp.bel (fg_cons g2 plq.bel (fg_cons g4 (.ptr _ _ hS2n) (fg_cons g11 plb.bel (fg_cons g52 (.osl _ _ _ _ _ hlt) fg_nil))))
    have hlen : ((putV v).length : Int) = (putV v).length := rfl
    refine V_adv (hadv.trans rfl) ?_
    repeat' first | refine fin _ _ _ _ _ _ rfl rfl rfl rfl rfl h0' rfl (by exact Nat.le_succ_of_le hS2n) | refine O_loadP rfl hg0 hl4 ?_ | refine O_cA rfl rfl hchk ?_ | refine O_cA rfl rfl hput ?_ | refine O_rawAll hraw hG1.1 rfl rfl ?_ | refine O_append rfl rfl hsrc (okEls_bytes _) (by decide) (by decide) happ ?_ | refine O_callW _ S (hfg _ rfl rfl rfl rfl rfl) hS2b.symm ⟨Nat.zero_le _, Nat.le_refl _⟩ htoks rfl rfl hvw hcall ?_ | refine O_storeV rfl rfl hone' hl4' rfl hst ?_ | refine O_loadP rfl hN hl4' ?_ | refine O_loadP rfl h0' hl4 ?_ | refine O_cA rfl rfl hsame ?_ | refine O_lenB rfl (BV.sl (putV v) false) ?_ | refine O_gNe rfl ?_ | refine O_step rfl ?_ | refine O_stepL rfl ?_ | refine V_O rfl ?_ | refine O_step rfl ?_ | refine O_nil' ?_ | refine V_cT rfl rfl ?_ | refine V_cF rfl rfl ?_ | refine V_cEq rfl rfl ?_ | refine V_cNe rfl rfl ?_ | refine V_cB rfl rfl (fun _ => ?_) (fun _ => ?_) | refine O_gT' rfl ?_ | refine O_gU' rfl ?_ | refine O_gF' rfl rfl ?_ | refine O_gEq rfl ?_ | refine O_gNe rfl ?_ | refine O_gS rfl (fun _ => ?_) (fun _ => ?_) | refine V_fA rfl rfl ?_ | refine V_fAN rfl rfl ?_ | refine V_D rfl ?_ | refine D_step rfl ?_ | refine D_nil' ?_ | refine D_gT' rfl ?_ | refine D_gU' rfl ?_ | refine D_gF' rfl rfl ?_ | refine D_gS rfl (fun _ => ?_) (fun _ => ?_)
    all_goals (exfalso; simp_all; done)
  · have hc0 : chk v = 20 := by simp [chk, hm]
    rw [hc0] at hchk
    have hg0 : (boxSt cs).get 0 = some (.var cs) := rfl
    refine V_adv (hadv.trans rfl) ?_
    repeat' first | refine fin _ _ _ _ _ _ rfl rfl rfl rfl rfl rfl rfl (Nat.le_of_ble_eq_true rfl) | refine O_loadP rfl hg0 hl4 ?_ | refine O_cA rfl rfl hchk ?_ | refine O_step rfl ?_ | refine V_O rfl ?_ | refine O_step rfl ?_ | refine O_nil' ?_ | refine V_cT rfl rfl ?_ | refine V_cF rfl rfl ?_ | refine V_cEq rfl rfl ?_ | refine V_cNe rfl rfl ?_ | refine V_cB rfl rfl (fun _ => ?_) (fun _ => ?_) | refine O_gT' rfl ?_ | refine O_gU' rfl ?_ | refine O_gF' rfl rfl ?_ | refine O_gEq rfl ?_ | refine O_gNe rfl ?_ | refine O_gS rfl (fun _ => ?_) (fun _ => ?_) | refine V_fA rfl rfl ?_ | refine V_fAN rfl rfl ?_ | refine V_D rfl ?_ | refine D_step rfl ?_ | refine D_nil' ?_ | refine D_gT' rfl ?_ | refine D_gU' rfl ?_ | refine D_gF' rfl rfl ?_ | refine D_gS rfl (fun _ => ?_) (fun _ => ?_)
set_option maxHeartbeats 4000000 in
theorem law_CodecBack {p q : PV} {l : List Val} {v : Val} {cs : List PV} {b : List UInt8} (hp : LC l p) (hv : VC v cs) (hq : BV q b) (hl : l.length ≤ 1048576) (hsz : sizeV v ≤ 1048576) (hb : b.length ≤ 1048576) : T.R (.call n_ramblelaw03_CodecBack [p, .agg cs, q] (.bool true)) := by
  have plp := hp.pl
  have plq := hq.pl
  have hcs := hv.pl
  have hbeg := run_begun
  have fin : ∀ (fr : List Fr) (x : EX) (ρ : EC) (st : St) (c : PC) (k : List Fr), adv 200 fr x = (.code c :: k, .normal) → adv 200 (.code c :: k) .normal = adv 200 [.code (backC 3)] .normal → ρ.get 0 = some p → ρ.get 2 = some q → ρ.get 4 = some (.ptr 0 0) → st.get 0 = some (.var cs) → st.base = 0 → 1 ≤ st.next → V T (Go.AM.Ends pf_ramblelaw03_CodecBack (· = PV.bool true)) fr x ρ st := fun fr x ρ st c k h1 h2 g0 g2 g4 hg hb0 hn =>
    V_adv h1 (V_forget _ (boxSt cs) (fg3 plp plq g0 g2 g4) hb0.symm ⟨Nat.zero_le _, hn⟩ (bel_box hcs hg) (back3 plp hq hb v cs hv hsz _ _ h2))
  obtain ⟨P, hP, hkey⟩ := run_Key l p hp (by omega)
  have plP := hP.pl
  cases hk : keyR l with
  | error e =>
    have hke : keyE l = e := by simp [keyE, hk]
    rw [hke] at hkey
    have hne : e ≠ 0 := by
      intro h0
      subst h0
      have hd : decide (keyE l = 0) = true := decide_eq_true hke
      clear hkey
      exact absurd hk (by
        clear hke hd
        intro h
        have : ∀ l : List Val, keyR l ≠ .error 0 := by
          intro l
          induction l with
          | nil => intro h; cases h
          | cons v l ih =>
            intro h
            simp only [keyR] at h
            split at h
            · split at h
              · cases h
              · cases hr : keyR l with
                | error e => rw [hr] at h; injection h with h; subst h; exact ih hr
                | ok P => rw [hr] at h; cases h
            · cases h
        exact this l h)
    refine call_V rfl rfl ?_
    repeat' first | refine fin _ _ _ _ _ _ rfl rfl rfl rfl rfl rfl rfl (Nat.le_of_ble_eq_true rfl) | refine O_cA rfl rfl hbeg ?_ | refine O_cA rfl rfl hkey ?_ | refine O_is (dec_not hne) rfl ?_ | refine O_step rfl ?_ | refine O_stepL rfl ?_ | refine V_O rfl ?_ | refine O_step rfl ?_ | refine O_nil' ?_ | refine V_cT rfl rfl ?_ | refine V_cF rfl rfl ?_ | refine V_cEq rfl rfl ?_ | refine V_cNe rfl rfl ?_ | refine V_cB rfl rfl (fun _ => ?_) (fun _ => ?_) | refine O_gT' rfl ?_ | refine O_gU' rfl ?_ | refine O_gF' rfl rfl ?_ | refine O_gEq rfl ?_ | refine O_gNe rfl ?_ | refine O_gS rfl (fun _ => ?_) (fun _ => ?_) | refine V_fA rfl rfl ?_ | refine V_fAN rfl rfl ?_ | refine V_D rfl ?_ | refine D_step rfl ?_ | refine D_nil' ?_ | refine D_gT' rfl ?_ | refine D_gU' rfl ?_ | refine D_gF' rfl rfl ?_ | refine D_gS rfl (fun _ => ?_) (fun _ => ?_)
  | ok PB =>
    have hke : keyE l = 0 := by simp [keyE, hk]
    have hkb : keyB l = PB := by simp [keyB, hk]
    rw [hke] at hkey
    rw [hkb] at hP
    obtain ⟨hf, hgood⟩ := keyR_flat hk
    have hPl : PB.length ≤ 1073741824 := by
      have := flat_le l hgood
      rw [← hf] at this
      omega
    have hvals := vals_key l PB.length (fun w hw => ⟨hgood w hw, by
      obtain ⟨j, hj⟩ := List.getElem?_of_mem hw
      obtain ⟨ds, _, h⟩ := hp.at hj
      obtain ⟨k, n, s, l'⟩ := w
      exact h.open.2.1⟩) (by rw [← hf]; exact Nat.le_refl _)
    rw [← hf] at hvals
    rcases run_Values hP hPl with ⟨l', X, g1, hX, hvc⟩ | ⟨e, g1, _⟩
    · rw [hvals] at g1
      injection g1 with g1
      subst g1
      have plX := hX.pl
      have hsa := run_SameAll l l X p hX hp
      rw [decide_eq_true (cmpVs_zero.2 rfl)] at hsa
      refine call_V rfl rfl ?_
      repeat' first | refine fin _ _ _ _ _ _ rfl rfl rfl rfl rfl rfl rfl (Nat.le_of_ble_eq_true rfl) | refine O_cA rfl rfl hbeg ?_ | refine O_cA rfl rfl hkey ?_ | refine O_cA rfl rfl hvc ?_ | refine O_cA rfl rfl hsa ?_ | refine O_step rfl ?_ | refine O_stepL rfl ?_ | refine V_O rfl ?_ | refine O_step rfl ?_ | refine O_nil' ?_ | refine V_cT rfl rfl ?_ | refine V_cF rfl rfl ?_ | refine V_cEq rfl rfl ?_ | refine V_cNe rfl rfl ?_ | refine V_cB rfl rfl (fun _ => ?_) (fun _ => ?_) | refine O_gT' rfl ?_ | refine O_gU' rfl ?_ | refine O_gF' rfl rfl ?_ | refine O_gEq rfl ?_ | refine O_gNe rfl ?_ | refine O_gS rfl (fun _ => ?_) (fun _ => ?_) | refine V_fA rfl rfl ?_ | refine V_fAN rfl rfl ?_ | refine V_D rfl ?_ | refine D_step rfl ?_ | refine D_nil' ?_ | refine D_gT' rfl ?_ | refine D_gU' rfl ?_ | refine D_gF' rfl rfl ?_ | refine D_gS rfl (fun _ => ?_) (fun _ => ?_)
    · rw [hvals] at g1; cases g1
end Go.Proofs.YtfdebgebnkbagaaDoor

/- codec.Parse; codec.Put of any value that may be; CodecBack, over plain values. -/
import Derived.Test.YtfdebgebnkbagaaDoorBackK
import Derived.Test.YtfdebgebnkbagaaDoorCodF
import Derived.Test.YtfdebgebnkbagaaDoorAmZ
set_option linter.unusedVariables false
set_option linter.unusedSimpArgs false
namespace Go.Proofs.YtfdebgebnkbagaaDoor
open Go Go.AM Go.RowKit
theorem resG_c1 {e : EC} {look : Nat → Option Tok} {t a b n : Nat} {cs : List PV} {x : PV} (ha : e.get a = some (.ptr t 0)) (hg : look t = some (.var cs)) (hl : cs.length = n) (hb : e.get b = some x) : resG e look [.cell a n true, .tmp b] = some (.tuple [.agg cs, x]) := by
  have hld : loadAt look n true (.ptr t 0) = some (.agg cs) := by
    simp only [loadAt, behind, hg, Option.bind_some]
    rw [← hl]
    simp [slice?]
  simp [resG, resGs, resG1, ha, hb, hld]
def PsOk (f : Nat) (args : List PV) (b : List UInt8) : Prop := (∃ e, e ≠ 0 ∧ T.R (.call f args (.tuple [.agg [.int .i64 0, .int .i64 0, .str [], .nilSl], .int .i64 e]))) ∨ ∃ v cs, readT b = .ok v b.length ∧ mayV 8 v = true ∧ VC v cs ∧ T.R (.call f args (.tuple [.agg cs, .int .i64 0]))
theorem readT_le {b : List UInt8} {v : Val} {n : Nat} (h : readT b = .ok v n) : n ≤ b.length ∧ mayV 8 v = true := by
  unfold readT at h
  split at h
  · cases h
  · rename_i w m hr
    obtain ⟨rfl, rfl, hm⟩ := made_ok' h
    exact ⟨(readV_le 8 b).2 _ _ hr, hm⟩
theorem readT_err {b : List UInt8} {e : Int} (h : readT b = .err e) : e ≠ 0 := by
  unfold readT at h
  split at h
  · rename_i e' hr
    injection h with h
    subst h
    exact (readV_le 8 b).1 _ hr
  · unfold made at h
    split at h
    · cases h
    · injection h with h; omega
set_option maxHeartbeats 4000000 in
theorem run_Parse {p : PV} {b : List UInt8} (hp : BV p b) (hb : b.length ≤ 1073741824) : PsOk n_codec_Parse [p] b := by
  have plp := hp.pl
  rcases run_Read hp hb with ⟨e, he, hc⟩ | ⟨v, n, cs, hv, hvc, hc⟩
  · have hne := readT_err he
    refine .inl ⟨e, hne, ?_⟩
    refine call_V rfl rfl ?_
    repeat' first | refine O_cA rfl rfl hc ?_ | refine O_is (dec_not hne) rfl ?_ | refine O_is (ndec_not hne) rfl ?_ | refine O_lenB rfl hp ?_ | refine O_step rfl ?_ | refine O_stepL rfl ?_ | refine V_O rfl ?_ | refine O_step rfl ?_ | refine O_nil' ?_ | refine V_cT rfl rfl ?_ | refine V_cF rfl rfl ?_ | refine V_cEq rfl rfl ?_ | refine V_cNe rfl rfl ?_ | refine V_cB rfl rfl (fun _ => ?_) (fun _ => ?_) | refine O_gT' rfl ?_ | refine O_gU' rfl ?_ | refine O_gF' rfl rfl ?_ | refine O_gEq rfl ?_ | refine O_gNe rfl ?_ | refine O_gS rfl (fun _ => ?_) (fun _ => ?_) | refine V_fA rfl rfl ?_ | refine V_fAN rfl rfl ?_ | refine V_D rfl ?_ | refine D_step rfl ?_ | refine D_nil' ?_ | refine D_gT' rfl ?_ | refine D_gU' rfl ?_ | refine D_gF' rfl rfl ?_ | refine D_gS rfl (fun _ => ?_) (fun _ => ?_)
    rfl
  · obtain ⟨hn, hm⟩ := readT_le hv
    have plc := hvc.pl
    have hl4 := hvc.len4
    have h1 := hvc.one
    have hz : ([.int .i64 0, .int .i64 0, .str [], .nilSl] : List PV).length = cs.length := by rw [hl4]; rfl
    let S : St := (emptySt.new (.var [.int .i64 0, .int .i64 0, .str [], .nilSl])).new (.var [.int .i64 0, .int .i64 0, .str [], .nilSl])
    have hst : storeAt S (.ptr 1 0) (.agg cs) = some (S.put 1 (.var cs)) := storeAt_whole rfl hz
    have hst2 : storeAt (S.put 1 (.var cs)) (.ptr 0 0) (.agg cs) = some ((S.put 1 (.var cs)).put 0 (.var cs)) := storeAt_whole rfl hz
    have hg1 : (S.put 1 (.var cs)).get 1 = some (.var cs) := rfl
    by_cases hlt : n < b.length
    · have hlt' : (n : Int) < b.length := by omega
      refine .inl ⟨30, by omega, ?_⟩
      refine call_V rfl rfl ?_
      repeat' first | refine O_cA rfl rfl hc ?_ | refine O_is (dec_is hlt') rfl ?_ | refine O_lenB rfl hp ?_ | refine O_storeV rfl rfl h1 hl4 rfl hst ?_ | refine O_step rfl ?_ | refine O_stepL rfl ?_ | refine V_O rfl ?_ | refine O_step rfl ?_ | refine O_nil' ?_ | refine V_cT rfl rfl ?_ | refine V_cF rfl rfl ?_ | refine V_cEq rfl rfl ?_ | refine V_cNe rfl rfl ?_ | refine V_cB rfl rfl (fun _ => ?_) (fun _ => ?_) | refine O_gT' rfl ?_ | refine O_gU' rfl ?_ | refine O_gF' rfl rfl ?_ | refine O_gEq rfl ?_ | refine O_gNe rfl ?_ | refine O_gS rfl (fun _ => ?_) (fun _ => ?_) | refine V_fA rfl rfl ?_ | refine V_fAN rfl rfl ?_ | refine V_D rfl ?_ | refine D_step rfl ?_ | refine D_nil' ?_ | refine D_gT' rfl ?_ | refine D_gU' rfl ?_ | refine D_gF' rfl rfl ?_ | refine D_gS rfl (fun _ => ?_) (fun _ => ?_)
      rfl
    · have hlt' : ¬ (n : Int) < b.length := by omega
      have hnb : n = b.length := by omega
      refine .inr ⟨v, cs, by rw [hv, hnb], hm, hvc, ?_⟩
      refine call_V rfl rfl ?_
      repeat' first | refine O_cA rfl rfl hc ?_ | refine O_is (dec_not hlt') rfl ?_ | refine O_lenB rfl hp ?_ | refine O_storeV rfl rfl h1 hl4 rfl hst ?_ | refine O_loadP rfl hg1 hl4 ?_ | refine O_storeV rfl rfl h1 hl4 rfl hst2 ?_ | refine O_step rfl ?_ | refine O_stepL rfl ?_ | refine V_O rfl ?_ | refine O_step rfl ?_ | refine O_nil' ?_ | refine V_cT rfl rfl ?_ | refine V_cF rfl rfl ?_ | refine V_cEq rfl rfl ?_ | refine V_cNe rfl rfl ?_ | refine V_cB rfl rfl (fun _ => ?_) (fun _ => ?_) | refine O_gT' rfl ?_ | refine O_gU' rfl ?_ | refine O_gF' rfl rfl ?_ | refine O_gEq rfl ?_ | refine O_gNe rfl ?_ | refine O_gS rfl (fun _ => ?_) (fun _ => ?_) | refine V_fA rfl rfl ?_ | refine V_fAN rfl rfl ?_ | refine V_D rfl ?_ | refine D_step rfl ?_ | refine D_nil' ?_ | refine D_gT' rfl ?_ | refine D_gU' rfl ?_ | refine D_gF' rfl rfl ?_ | refine D_gS rfl (fun _ => ?_) (fun _ => ?_)
      exact V_fin (r0 := .tuple [.agg cs, .int .i64 0]) rfl (resG_c1 rfl St.get_put hl4 rfl) (Pl.view (by (repeat' (first | exact Pl.int _ _ | exact Pl.bool _ | exact Pl.str _ | exact Pl.nilSl | exact pl_nil | refine pl_cons ?_ ?_ | refine Pl.tuple _ ?_ | refine Pl.agg _ ?_ | refine Pl.func _ _ ?_ | assumption | refine Pl.iptr _ _ ?_ | exact pll_nil | refine pll_cons ?_ ?_ | refine Pl.sl _ _ ?_)); first | done | fail)) rfl
theorem run_PutMay {v : Val} {cs : List PV} (hv : VC v cs) (hm : mayV 8 v = true) (hlen : (putV v).length ≤ 100000000000000) : T.R (.call n_codec_Put [.nilSl, .agg cs] (.sl (byteCells (putV v)) false)) := by
  have hchk := run_Check hv
  have hc0 : chk v = 0 := by simp [chk, hm]
  rw [hc0] at hchk
  have plc := hv.pl
  have hA0 : (emptySt.new (.var cs)).get 0 = some (.var cs) := rfl
  have hnxt : (emptySt.new (.var cs)).next = 1 := rfl
  obtain ⟨b', st', h1, h2, h3⟩ := put_all hv ⟨1, 1, (emptySt.new (.var cs)).toks⟩ .nilSl [] rfl (.inl ⟨rfl, rfl⟩) (by simpa using hlen)
  have hB0 : (⟨0, st'.next, st'.toks⟩ : St).get 0 = some (.var cs) := (h3.2.2.2 0 (by show 0 < 1; omega) (by simp [tokOf])).trans rfl
  rw [List.nil_append] at h2
  refine call_V rfl rfl ?_
  repeat' first | refine O_loadP rfl hA0 hv.len4 ?_ | refine O_cA rfl rfl hchk ?_ | refine V_M 3 ⟨0, st'.next, st'.toks⟩ rfl ?_ | refine M_call rfl (.inl rfl) rfl rfl (viewL_pl (by (repeat' (first | exact Pl.int _ _ | exact Pl.bool _ | exact Pl.str _ | exact Pl.nilSl | exact pl_nil | refine pl_cons ?_ ?_ | refine Pl.tuple _ ?_ | refine Pl.agg _ ?_ | refine Pl.func _ _ ?_ | assumption | refine Pl.iptr _ _ ?_ | exact pll_nil | refine pll_cons ?_ ?_ | refine Pl.sl _ _ ?_)); first | done | fail)) (viewL_pl (by (repeat' (first | exact Pl.int _ _ | exact Pl.bool _ | exact Pl.str _ | exact Pl.nilSl | exact pl_nil | refine pl_cons ?_ ?_ | refine Pl.tuple _ ?_ | refine Pl.agg _ ?_ | refine Pl.func _ _ ?_ | assumption | refine Pl.iptr _ _ ?_ | exact pll_nil | refine pll_cons ?_ ?_ | refine Pl.sl _ _ ?_)); first | done | fail)) run_CloneNil ?_ | refine M_loadP rfl (.inl rfl) rfl hA0 hB0 hv.len4 ?_ | refine M_rawAll h1 h3.1 rfl rfl rfl rfl ?_ | refine M_step rfl (.inl rfl) rfl rfl ?_ | refine M_step rfl (.inr rfl) rfl rfl ?_ | refine M_nil ?_ | refine O_step rfl ?_ | refine O_stepL rfl ?_ | refine V_O rfl ?_ | refine O_step rfl ?_ | refine O_nil' ?_ | refine V_cT rfl rfl ?_ | refine V_cF rfl rfl ?_ | refine V_cEq rfl rfl ?_ | refine V_cNe rfl rfl ?_ | refine V_cB rfl rfl (fun _ => ?_) (fun _ => ?_) | refine O_gT' rfl ?_ | refine O_gU' rfl ?_ | refine O_gF' rfl rfl ?_ | refine O_gEq rfl ?_ | refine O_gNe rfl ?_ | refine O_gS rfl (fun _ => ?_) (fun _ => ?_) | refine V_fA rfl rfl ?_ | refine V_fAN rfl rfl ?_ | refine V_D rfl ?_ | refine D_step rfl ?_ | refine D_nil' ?_ | refine D_gT' rfl ?_ | refine D_gU' rfl ?_ | refine D_gF' rfl rfl ?_ | refine D_gS rfl (fun _ => ?_) (fun _ => ?_)
  rcases h2 with ⟨_, h⟩ | ⟨t, g, rfl, hg, hlt⟩
  · exact absurd h (by simp [byteCells, putV_pos])
  · exact V_fin rfl rfl (view_osl0 (lv := true) (es := byteCells (putV v)) hg (.inl rfl) rfl (pl_bytes _)) rfl
mutual
def sizeV : Val → Nat
  | .mk _ _ s l => 1 + s.length + sizeVs l
def sizeVs : List Val → Nat
  | [] => 0
  | v :: l => sizeV v + sizeVs l
end
theorem putL_len : ∀ n u, (putL n u).length ≤ n + 1
  | 0, u => by simp [putL]
  | n + 1, u => by
    have := putL_len n (u / 128)
    simp only [putL]
    split
    · simp
    · simp; omega
mutual
theorem putV_size : ∀ v : Val, (putV v).length ≤ 11 * sizeV v
  | .mk k n s l => by
    have h1 := putL_len 9 (zigN n)
    have h2 := putL_len 9 (n % 18446744073709551616).toNat
    have h3 := putL_len 9 s.length
    have h4 := putL_len 9 l.length
    have h5 := putVs_size l
    simp only [putV, sizeV]
    split
    · simp only [List.length_cons]; omega
    · split
      · simp only [List.length_cons]; omega
      · split
        · simp; omega
        · split
          · simp only [List.length_cons, List.length_append]; omega
          · simp only [List.length_cons, List.length_append]; omega
theorem putVs_size : ∀ l : List Val, (putVs l).length ≤ 11 * sizeVs l
  | [] => by simp [putVs]
  | v :: l => by
    have h1 := putV_size v
    have h2 := putVs_size l
    simp only [putVs, sizeVs, List.length_append]
    omega
end
theorem valsR_err0 : ∀ (m : Nat) (b : List UInt8) (e : Int), valsR m b = .error e → e ≠ 0
  | 0, b, e, h => by cases h
  | m + 1, [], e, h => by cases h
  | m + 1, c :: r, e, h => by
    simp only [valsR] at h
    cases ht : takeR (c :: r) with
    | err e' =>
      rw [ht] at h
      injection h with h
      subst h
      exact fun h0 => take_err0 _ (by rw [ht, h0])
    | ok v n =>
      rw [ht] at h
      cases hr : valsR m ((c :: r).drop n) with
      | error e' =>
        simp only [hr] at h
        injection h with h
        subst h
        exact valsR_err0 m _ _ hr
      | ok l => simp only [hr] at h; cases h
theorem form_pos (v : Val) : (formV v).length ≠ 0 := fun e => form_ne v (List.length_eq_zero_iff.1 e)
theorem flat_len' (l : List Val) : l.length ≤ (l.flatMap formV).length := by
  induction l with
  | nil => simp
  | cons v l ih =>
    have := form_pos v
    rw [List.flatMap_cons, List.length_append, List.length_cons]
    omega
theorem flat_le : ∀ (l : List Val), (∀ v ∈ l, Good v) → (l.flatMap formV).length ≤ 260 * l.length
  | [], _ => by simp
  | v :: l, h => by
    have ih := flat_le l (fun w hw => h w (by simp [hw]))
    have hv : (formV v).length ≤ 260 := by
      have hg := h v (by simp)
      obtain ⟨k, n, s, l'⟩ := v
      have hm := may_cases hg.1
      have he := esc_le s
      simp only [formV]
      split
      · simp [be_len]
      · split
        · simp
        · simp only [List.length_cons, List.length_append, List.length_nil]
          rcases hm with ⟨_, rfl, _⟩ | ⟨_, rfl, _⟩ | ⟨_, rfl, _⟩ | ⟨_, _, _, h2⟩ | ⟨_, _, rfl, _⟩
          · simp [esc]
          · simp [esc]
          · simp [esc]
          · omega
          · simp [esc]
    rw [List.flatMap_cons, List.length_append, List.length_cons]
    omega
end Go.Proofs.YtfdebgebnkbagaaDoor

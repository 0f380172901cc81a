/- codec.Values. -/
import Derived.Test.YtfdebgebnkbagaaDoorCodM
set_option linter.unusedVariables false
set_option linter.unusedSimpArgs false
namespace Go.Proofs.YtfdebgebnkbagaaDoor
open Go Go.AM Go.RowKit
theorem strR_ok : ∀ (m : Nat) (r acc : List UInt8) (n : Nat) (v : Val) (k : Nat), r.length ≤ m → strR r acc n = .ok v k → n < k ∧ k ≤ n + r.length ∧ ∃ s, v = .mk 2 0 s [] ∧ s.length ≤ acc.length + r.length := by
  intro m
  induction m with
  | zero =>
    intro r acc n v k hm h
    have : r = [] := List.length_eq_zero_iff.1 (by omega)
    subst this
    cases h
  | succ m ih =>
    intro r acc n v k hm h
    match r, hm, h with
    | [], hm, h => cases h
    | [b], hm, h => simp [strR] at h
    | b :: c :: r, hm, h =>
      unfold strR at h
      split at h
      · split at h
        · unfold made at h
          split at h
          · injection h with h1 h2
            subst h1 h2
            exact ⟨by omega, by simp, acc, rfl, by simp⟩
          · cases h
        · split at h
          · obtain ⟨h1, h2, s, h3, h4⟩ := ih r _ _ v k (by simp at hm; omega) h
            exact ⟨by omega, by simp; omega, s, h3, by simp at h4 ⊢; omega⟩
          · cases h
      · obtain ⟨h1, h2, s, h3, h4⟩ := ih (c :: r) _ _ v k (by simp at hm ⊢; omega) h
        exact ⟨by omega, by simp at h2 ⊢; omega, s, h3, by simp at h4 ⊢; omega⟩
theorem made_ok {w v : Val} {m n : Nat} (h : made w m = .ok v n) : v = w ∧ n = m := by
  unfold made at h
  split at h
  · injection h with h1 h2; exact ⟨h1.symm, h2.symm⟩
  · cases h
theorem take_ok {b : List UInt8} {v : Val} {n : Nat} (h : takeR b = .ok v n) (hb : b.length ≤ 1073741824) : 1 ≤ n ∧ n ≤ b.length ∧ ∃ k m s, v = .mk k m s [] ∧ I64 k ∧ I64 m ∧ s.length ≤ 1073741824 := by
  cases b with
  | nil => cases h
  | cons c r =>
    have hc := c.toNat_lt
    simp only [takeR] at h
    split at h
    · split at h
      · cases h
      · rename_i h8
        obtain ⟨rfl, rfl⟩ := made_ok h
        have hu := un8_lt (r.take 8)
        have hl8 : (r.take 8).length = 8 := by simp; omega
        rw [hl8, p256] at hu
        exact ⟨by omega, by simp; omega, _, _, _, rfl, by unfold I64; omega, i64_ord _ hu, by simp⟩
    · split at h
      · cases r with
        | nil => cases h
        | cons d r =>
          have hd := d.toNat_lt
          obtain ⟨rfl, rfl⟩ := made_ok h
          exact ⟨by omega, by simp, _, _, _, rfl, by simp [I64], by unfold I64; omega, by simp⟩
      · split at h
        · obtain ⟨h1, h2, s, rfl, h4⟩ := strR_ok r.length r [] 1 v n (Nat.le_refl _) h
          exact ⟨by omega, by simp; omega, _, _, _, rfl, by simp [I64], by simp [I64], by simp at h4 hb; omega⟩
        · cases h
def cellsS : Val → List PV
  | .mk k n s _ => [.int .i64 k, .int .i64 n, .str s, .nilSl]
def valsR : Nat → List UInt8 → Except Int (List Val)
  | 0, _ => .ok []
  | _ + 1, [] => .ok []
  | m + 1, c :: r => match takeR (c :: r) with
    | .err e => .error e
    | .ok v n => (valsR m ((c :: r).drop n)).map (v :: ·)
def Scal (v : Val) : Prop := ∃ k m s, v = .mk k m s [] ∧ I64 k ∧ I64 m ∧ s.length ≤ 1073741824
def valsP (t : Except Int (List Val)) : EX → EC → St → Prop := fun x e' st' => (x = .exit 0 ∧ ∃ v' l, t = .ok l ∧ (∀ w ∈ l, Scal w) ∧ l.length ≤ 1073741824 ∧ e' = .put 4 v' .nil ∧ AccT 4 st' v' (l.map cellsS)) ∨ (∃ err, x = .ret ∧ t = .error err ∧ e' = .put 2 .nilSl (.put 3 (.int .i64 err) .nil))
theorem lc_cells (l : List Val) (h : ∀ w ∈ l, Scal w) (hl : l.length ≤ 1073741824) (f : Bool) : LC l (.sl (l.map cellsS) f) := .inr ⟨_, f, rfl, by omega, by simp, fun j v cs hj hc => by
  rw [List.getElem?_map, hj] at hc
  simp only [Option.map_some, Option.some.injEq] at hc
  subst hc
  obtain ⟨k, m, s, rfl, h1, h2, h3⟩ := h v (List.mem_of_getElem? hj)
  exact .nil _ _ _ h1 h2 (by omega)⟩
theorem cells_pl (l : List Val) : ∀ cs ∈ l.map cellsS, ∀ c ∈ cs, Pl c := fun cs hcs => by
  obtain ⟨⟨k, n, s, w⟩, _, rfl⟩ := List.mem_map.1 hcs
  exact pl_cons (.int _ _) (pl_cons (.int _ _) (pl_cons (.str _) (pl_cons .nilSl pl_nil)))
theorem strR_err0 : ∀ (m : Nat) (r acc : List UInt8) (n : Nat), r.length ≤ m → strR r acc n ≠ .err 0 := by
  intro m
  induction m with
  | zero =>
    intro r acc n hm h
    have : r = [] := List.length_eq_zero_iff.1 (by omega)
    subst this
    injection h with h; cases h
  | succ m ih =>
    intro r acc n hm h
    match r, hm, h with
    | [], hm, h => injection h with h; cases h
    | [b], hm, h => simp [strR] at h
    | b :: c :: r, hm, h =>
      unfold strR at h
      split at h
      · split at h
        · unfold made at h
          split at h
          · cases h
          · injection h with h; cases h
        · split at h
          · exact ih r _ _ (by simp at hm; omega) h
          · injection h with h; cases h
      · exact ih (c :: r) _ _ (by simp at hm ⊢; omega) h
theorem made_err0 (w : Val) (m : Nat) : made w m ≠ .err 0 := fun h => by
  unfold made at h
  split at h
  · cases h
  · injection h with h; cases h
theorem take_err0 (b : List UInt8) : takeR b ≠ .err 0 := fun h => by
  cases b with
  | nil => injection h with h; cases h
  | cons c r =>
    simp only [takeR] at h
    split at h
    · split at h
      · injection h with h; cases h
      · exact made_err0 _ _ h
    · split at h
      · cases r with
        | nil => injection h with h; cases h
        | cons d r => exact made_err0 _ _ h
      · split at h
        · exact strR_err0 _ _ _ _ (Nat.le_refl _) h
        · injection h with h; cases h
theorem vals_loop : ∀ (m : Nat) (b : List UInt8) (p : PV) (l : List Val) (e : EC) (st : St) (v : PV) (t : Except Int (List Val)), b.length ≤ m → b.length + l.length ≤ 1073741824 → BV p b → t = (valsR m b).map (l ++ ·) → (∀ w ∈ l, Scal w) → AccT 4 st v (l.map cellsS) → e.get 0 = some p → e.get 4 = some v →
    V T (PE (valsP t)) [.code (.loop lp_codec_Values_0)] .normal e st := by
  intro m
  have out : ∀ (t : Except Int (List Val)) (l : List Val) (fr : List Fr) (x : EX) (e' : EC) (st : St) (v : PV), t = .ok l → (∀ w ∈ l, Scal w) → l.length ≤ 1073741824 → AccT 4 st v (l.map cellsS) → adv 200 fr x = ([], .exit 0) → e'.get 4 = some v → V T (PE (valsP t)) fr x e' st := fun t l fr x e' st v ht hs hl hA hadv g4 =>
    V_less (.put 4 v .nil) (less_put g4 less_nil) (V_endP hadv (.inl ⟨rfl, v, l, ht, hs, hl, rfl, hA⟩))
  have ret : ∀ (t : Except Int (List Val)) (err : Int) (fr : List Fr) (x : EX) (e' : EC) (st : St), t = .error err → adv 200 fr x = ([], .ret) → e'.get 2 = some .nilSl → e'.get 3 = some (.int .i64 err) → V T (PE (valsP t)) fr x e' st := fun t err fr x e' st ht hadv g2 g3 =>
    V_less (.put 2 _ (.put 3 _ .nil)) (less_put g2 (less_put g3 less_nil)) (V_endP hadv (.inr ⟨err, rfl, ht, rfl⟩))
  have emp : ∀ (m : Nat) (p : PV) (l : List Val) (e : EC) (st : St) (v : PV) (t : Except Int (List Val)), l.length ≤ 1073741824 → BV p [] → t = .ok l → (∀ w ∈ l, Scal w) → AccT 4 st v (l.map cellsS) → e.get 0 = some p → e.get 4 = some v → V T (PE (valsP t)) [.code (.loop lp_codec_Values_0)] .normal e st := fun m p l e st v t hl hp ht hs hA h0 h4 => by
    refine V_less (.put 0 p (.put 4 _ .nil)) (less_put h0 (less_put h4 less_nil)) (V_unroll ?_)
    repeat' first | refine O_lenB rfl hp ?_ | refine out _ l _ _ _ _ _ ht hs hl hA rfl rfl | refine V_O rfl ?_ | refine O_step rfl ?_ | refine O_nil' ?_ | refine V_cT rfl rfl ?_ | refine V_cF rfl rfl ?_ | refine V_cEq rfl rfl ?_ | refine V_cNe rfl rfl ?_ | refine V_cB rfl rfl (fun _ => ?_) (fun _ => ?_) | refine O_gT' rfl ?_ | refine O_gU' rfl ?_ | refine O_gF' rfl rfl ?_ | refine O_gEq rfl ?_ | refine O_gNe rfl ?_ | refine O_gS rfl (fun _ => ?_) (fun _ => ?_) | refine V_fA rfl rfl ?_ | refine V_fAN rfl rfl ?_ | refine V_D rfl ?_ | refine D_step rfl ?_ | refine D_nil' ?_ | refine D_gT' rfl ?_ | refine D_gU' rfl ?_ | refine D_gF' rfl rfl ?_ | refine D_gS rfl (fun _ => ?_) (fun _ => ?_)
  induction m with
  | zero =>
    intro b p l e st v t hm hbl hp ht hs hA h0 h4
    have : b = [] := List.length_eq_zero_iff.1 (by omega)
    subst this
    exact emp 0 p l e st v t (by simp at hbl; omega) hp (by rw [ht]; simp [valsR, Except.map]) hs hA h0 h4
  | succ m ih =>
    intro b p l e st v t hm hbl hp ht hs hA h0 h4
    cases b with
    | nil => exact emp 0 p l e st v t (by simp at hbl; omega) hp (by rw [ht]; simp [valsR, Except.map]) hs hA h0 h4
    | cons c r =>
      have hgt : decide (0 < ((c :: r).length : Int)) = true := decide_eq_true (by simp; try omega)
      have htk := run_Take hp (by omega)
      have plp := hp.pl
      cases htr : takeR (c :: r) with
      | err er =>
        rw [htr] at htk
        have hte : t = .error er := by rw [ht]; simp [valsR, htr, Except.map]
        by_cases he0 : er = 0
        · exact absurd (he0 ▸ htr) (take_err0 (c :: r))
        have hne : (!decide (er = 0)) = true := by simp [he0]
        refine V_less (.put 0 p (.put 4 _ .nil)) (less_put h0 (less_put h4 less_nil)) (V_unroll ?_)
        clear ih emp
        have hst0 : storeAt (st.new (.var [.int .i64 0, .int .i64 0, .str [], .nilSl])) (.ptr st.next 0) (.agg [.int .i64 0, .int .i64 0, .str [], .nilSl]) = some ((st.new (.var [.int .i64 0, .int .i64 0, .str [], .nilSl])).put st.next (.var [.int .i64 0, .int .i64 0, .str [], .nilSl])) := storeAt_whole St.get_new rfl
        repeat' first | refine O_lenB rfl hp ?_ | refine V_cHT hgt rfl rfl ?_ | refine V_cHT hne rfl rfl ?_ | refine O_cA rfl rfl htk ?_ | refine O_storeV rfl rfl rfl rfl rfl hst0 ?_ | refine ret _ er _ _ _ _ hte rfl rfl rfl | refine O_step rfl ?_ | refine O_stepL rfl ?_ | refine V_O rfl ?_ | refine O_step rfl ?_ | refine O_nil' ?_ | refine V_cT rfl rfl ?_ | refine V_cF rfl rfl ?_ | refine V_cEq rfl rfl ?_ | refine V_cNe rfl rfl ?_ | refine V_cB rfl rfl (fun _ => ?_) (fun _ => ?_) | refine O_gT' rfl ?_ | refine O_gU' rfl ?_ | refine O_gF' rfl rfl ?_ | refine O_gEq rfl ?_ | refine O_gNe rfl ?_ | refine O_gS rfl (fun _ => ?_) (fun _ => ?_) | refine V_fA rfl rfl ?_ | refine V_fAN rfl rfl ?_ | refine V_D rfl ?_ | refine D_step rfl ?_ | refine D_nil' ?_ | refine D_gT' rfl ?_ | refine D_gU' rfl ?_ | refine D_gF' rfl rfl ?_ | refine D_gS rfl (fun _ => ?_) (fun _ => ?_)
      | ok w n =>
        obtain ⟨hn1, hn2, k, i, s, rfl, hk, hi, hsl⟩ := take_ok htr (by omega)
        rw [htr] at htk
        have hA1 : AccT 4 ((st.new (.var [.int .i64 0, .int .i64 0, .str [], .nilSl])).put st.next (.var [.int .i64 k, .int .i64 i, .str s, .nilSl])) v (l.map cellsS) := by
          rcases hA with h | ⟨t, g, rfl, hg, hlt⟩
          · exact .inl h
          · exact .inr ⟨t, g, rfl, by rw [St.get_put_old (by omega), St.get_new_old hlt]; exact hg, by simp [St.new, St.put]; omega⟩
        have hst0 : storeAt (st.new (.var [.int .i64 0, .int .i64 0, .str [], .nilSl])) (.ptr st.next 0) (.agg [.int .i64 k, .int .i64 i, .str s, .nilSl]) = some ((st.new (.var [.int .i64 0, .int .i64 0, .str [], .nilSl])).put st.next (.var [.int .i64 k, .int .i64 i, .str s, .nilSl])) := storeAt_whole St.get_new rfl
        have hgS : ((st.new (.var [.int .i64 0, .int .i64 0, .str [], .nilSl])).put st.next (.var [.int .i64 k, .int .i64 i, .str s, .nilSl])).get st.next = some (.var [.int .i64 k, .int .i64 i, .str s, .nilSl]) := St.get_put
        generalize (st.new (.var [.int .i64 0, .int .i64 0, .str [], .nilSl])).put st.next (.var [.int .i64 k, .int .i64 i, .str s, .nilSl]) = S at hA1 hst0 hgS
        obtain ⟨v2, st2, k1, k2, k3⟩ := hA1.grow (bytes := 56) (src := [[.int .i64 k, .int .i64 i, .str s, .nilSl]]) (by simp) (by simp [roomLen]; try omega)
        have k2' : AccT 4 st2 v2 ((l ++ [Val.mk k i s []]).map cellsS) := by simpa [cellsS] using k2
        obtain ⟨v', hv', hb'⟩ := hp.lo st2.get (k := .i64) (m := (n : Int)) (by omega) (by omega)
        rw [Int.toNat_natCast] at hb'
        have hte : t = (valsR m ((c :: r).drop n)).map ((l ++ [Val.mk k i s []]) ++ ·) := by
          rw [ht]
          simp only [valsR, htr]
          cases valsR m ((c :: r).drop n) <;> simp [Except.map]
        have hdl : ((c :: r).drop n).length + n = (c :: r).length := by rw [List.length_drop]; omega
        have hne : (!decide ((0 : Int) = 0)) = false := rfl
        have fin : ∀ (fr : List Fr) (x : EX) (e' : EC), adv 200 fr x = ([.code (.loop lp_codec_Values_0)], .normal) → e'.get 0 = some v' → e'.get 4 = some v2 → V T (PE (valsP t)) fr x e' st2 := fun fr x e' hadv g0 g4 => V_adv hadv
          (ih _ v' (l ++ [Val.mk k i s []]) e' st2 v2 t (by omega) (by simp at hbl hdl ⊢; omega) hb' hte (fun w hw => by
            rcases List.mem_append.1 hw with hw | hw
            · exact hs w hw
            · rw [List.mem_singleton.1 hw]; exact ⟨k, i, s, rfl, hk, hi, hsl⟩) k2' g0 g4)
        refine V_less (.put 0 p (.put 4 _ .nil)) (less_put h0 (less_put h4 less_nil)) (V_unroll ?_)
        clear ih emp out ret
        repeat' first | refine O_lenB rfl hp ?_ | refine V_cHT hgt rfl rfl ?_ | refine O_cA rfl rfl htk ?_ | refine O_storeV rfl rfl rfl rfl rfl hst0 ?_ | refine O_loadP rfl hgS rfl ?_ | refine O_append (src := [[.int .i64 k, .int .i64 i, .str s, .nilSl]]) rfl rfl rfl rfl (by decide) (by decide) k1 ?_ | refine O_slice v' rfl rfl rfl rfl hv' ?_ | refine fin _ _ _ rfl rfl rfl | refine O_step rfl ?_ | refine O_stepL rfl ?_ | refine V_O rfl ?_ | refine O_step rfl ?_ | refine O_nil' ?_ | refine V_cT rfl rfl ?_ | refine V_cF rfl rfl ?_ | refine V_cEq rfl rfl ?_ | refine V_cNe rfl rfl ?_ | refine V_cB rfl rfl (fun _ => ?_) (fun _ => ?_) | refine O_gT' rfl ?_ | refine O_gU' rfl ?_ | refine O_gF' rfl rfl ?_ | refine O_gEq rfl ?_ | refine O_gNe rfl ?_ | refine O_gS rfl (fun _ => ?_) (fun _ => ?_) | refine V_fA rfl rfl ?_ | refine V_fAN rfl rfl ?_ | refine V_D rfl ?_ | refine D_step rfl ?_ | refine D_nil' ?_ | refine D_gT' rfl ?_ | refine D_gU' rfl ?_ | refine D_gF' rfl rfl ?_ | refine D_gS rfl (fun _ => ?_) (fun _ => ?_)
theorem run_Values {p : PV} {b : List UInt8} (hp : BV p b) (hb : b.length ≤ 1073741824) : (∃ l q, valsR b.length b = .ok l ∧ LC l q ∧ T.R (.call n_codec_Values [p] (.tuple [q, .int .i64 0]))) ∨ ∃ err, valsR b.length b = .error err ∧ T.R (.call n_codec_Values [p] (.tuple [.nilSl, .int .i64 err])) := by
  have hl := fun e h0 h4 => vals_loop b.length b p [] e emptySt .nilSl (valsR b.length b) (Nat.le_refl _) (by simpa using hb) hp (by cases valsR b.length b <;> rfl) (fun w hw => by cases hw) (.inl ⟨rfl, rfl⟩) h0 h4
  have key : ∃ r, T.R (.call n_codec_Values [p] r) ∧ ((∃ l q, valsR b.length b = .ok l ∧ LC l q ∧ r = .tuple [q, .int .i64 0]) ∨ ∃ err, valsR b.length b = .error err ∧ r = .tuple [.nilSl, .int .i64 err]) := by
    refine call_VQ rfl rfl ?_
    repeat' first | refine V_cutA rfl (hl _ rfl rfl) ?_ | refine V_O rfl ?_ | refine O_step rfl ?_ | refine O_nil' ?_ | refine V_cT rfl rfl ?_ | refine V_cF rfl rfl ?_ | refine V_cEq rfl rfl ?_ | refine V_cNe rfl rfl ?_ | refine V_cB rfl rfl (fun _ => ?_) (fun _ => ?_) | refine O_gT' rfl ?_ | refine O_gU' rfl ?_ | refine O_gF' rfl rfl ?_ | refine O_gEq rfl ?_ | refine O_gNe rfl ?_ | refine O_gS rfl (fun _ => ?_) (fun _ => ?_) | refine V_fA rfl rfl ?_ | refine V_fAN rfl rfl ?_ | refine V_D rfl ?_ | refine D_step rfl ?_ | refine D_nil' ?_ | refine D_gT' rfl ?_ | refine D_gU' rfl ?_ | refine D_gF' rfl rfl ?_ | refine D_gS rfl (fun _ => ?_) (fun _ => ?_)
    rintro x e' st' (⟨rfl, v', l, ht, hs, hll, rfl, hA⟩ | ⟨err, rfl, ht, rfl⟩)
    · rcases hA with ⟨rfl, h⟩ | ⟨t, g, rfl, hg, hlt⟩
      · have : l = [] := by simpa using h
        subst this
        repeat' first | refine V_O rfl ?_ | refine O_step rfl ?_ | refine O_nil' ?_ | refine V_cT rfl rfl ?_ | refine V_cF rfl rfl ?_ | refine V_cEq rfl rfl ?_ | refine V_cNe rfl rfl ?_ | refine V_cB rfl rfl (fun _ => ?_) (fun _ => ?_) | refine O_gT' rfl ?_ | refine O_gU' rfl ?_ | refine O_gF' rfl rfl ?_ | refine O_gEq rfl ?_ | refine O_gNe rfl ?_ | refine O_gS rfl (fun _ => ?_) (fun _ => ?_) | refine V_fA rfl rfl ?_ | refine V_fAN rfl rfl ?_ | refine V_D rfl ?_ | refine D_step rfl ?_ | refine D_nil' ?_ | refine D_gT' rfl ?_ | refine D_gU' rfl ?_ | refine D_gF' rfl rfl ?_ | refine D_gS rfl (fun _ => ?_) (fun _ => ?_)
        exact .inl ⟨[], .nilSl, ht, .inl ⟨rfl, rfl⟩, rfl⟩
      · repeat' first | refine V_fin (r := .tuple [.sl (l.map cellsS) false, .int .i64 0]) rfl rfl (view_tuple (viewL_cons (view_osl0 hg (.inl rfl) rfl (cells_pl l)) (viewL_cons (.int _ _) viewL_nil))) ?_ | refine V_O rfl ?_ | refine O_step rfl ?_ | refine O_nil' ?_ | refine V_cT rfl rfl ?_ | refine V_cF rfl rfl ?_ | refine V_cEq rfl rfl ?_ | refine V_cNe rfl rfl ?_ | refine V_cB rfl rfl (fun _ => ?_) (fun _ => ?_) | refine O_gT' rfl ?_ | refine O_gU' rfl ?_ | refine O_gF' rfl rfl ?_ | refine O_gEq rfl ?_ | refine O_gNe rfl ?_ | refine O_gS rfl (fun _ => ?_) (fun _ => ?_) | refine V_fA rfl rfl ?_ | refine V_fAN rfl rfl ?_ | refine V_D rfl ?_ | refine D_step rfl ?_ | refine D_nil' ?_ | refine D_gT' rfl ?_ | refine D_gU' rfl ?_ | refine D_gF' rfl rfl ?_ | refine D_gS rfl (fun _ => ?_) (fun _ => ?_)
        exact .inl ⟨l, _, ht, lc_cells l hs hll false, rfl⟩
    · exact V_fin (r := .tuple [.nilSl, .int .i64 err]) rfl rfl (Pl.view (by (repeat' (first | exact Pl.int _ _ | exact Pl.bool _ | exact Pl.str _ | exact Pl.nilSl | exact pl_nil | refine pl_cons ?_ ?_ | refine Pl.tuple _ ?_ | refine Pl.agg _ ?_ | refine Pl.func _ _ ?_ | assumption | refine Pl.iptr _ _ ?_ | exact pll_nil | refine pll_cons ?_ ?_ | refine Pl.sl _ _ ?_)); first | done | fail)) (.inr ⟨err, ht, rfl⟩)
  obtain ⟨r, h1, ⟨l, q, h2, h3, rfl⟩ | ⟨err, h2, rfl⟩⟩ := key
  · exact .inl ⟨l, q, h2, h3, h1⟩
  · exact .inr ⟨err, h2, h1⟩
end Go.Proofs.YtfdebgebnkbagaaDoor

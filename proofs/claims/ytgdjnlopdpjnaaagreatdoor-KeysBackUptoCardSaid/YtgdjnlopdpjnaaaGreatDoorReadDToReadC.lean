/- codec.read, over plain values; num.Zag; codec.made of any value. · codec.rest: the loop over the values that stand within. · codec.rest. · codec.read, codec.Read, codec.Parse. -/
import Derived.Test.YtgdjnlopdpjnaaaGreatDoorPutVToCodO
import Derived.Test.YtgdjnlopdpjnaaaGreatDoorCodBToValG
set_option linter.unusedVariables false
set_option linter.unusedSimpArgs false
namespace Go.Proofs.YtgdjnlopdpjnaaaGreatDoor
open Go Go.AM Go.RowKit
def zagN (u : Nat) : Int := if u % 2 = 0 then ((u / 2 : Nat) : Int) else -((u / 2 : Nat) : Int) - 1
def sgnN (u : Nat) : Int := if u < 9223372036854775808 then (u : Int) else (u : Int) - 18446744073709551616
def Z3u (rd : List UInt8 → TR) : Nat → List UInt8 → Nat → Except Int (List Val × Nat)
  | 0, _, n => .ok ([], n)
  | m + 1, b, n => match rd b with
    | .err e => .error e
    | .ok v k => (Z3u rd m (b.drop k) (n + k)).map fun r => (v :: r.1, r.2)
def Z5v (rd : List UInt8 → TR) (k u : Nat) (b : List UInt8) (n : Nat) : TR :=
  if k = 1 then .ok (.mk 1 (zagN u) [] []) n
  else if k = 6 ∨ k = 7 then .ok (.mk k (sgnN u) [] []) n
  else if k = 2 then (if 128 < u then .err 30 else if b.length < u then .err 11 else .ok (.mk 2 0 (b.take u) []) (n + u))
  else if 512 < u ∨ (k = 4 ∧ 256 < u) then .err 30
  else match Z3u rd u b n with
    | .error e => .err e
    | .ok r => .ok (.mk k 0 [] r.1) r.2
def Zdj : Nat → List UInt8 → TR
  | _, [] => .err 11
  | 0, _ :: _ => .err 30
  | f + 1, c :: r => if c.toNat < 1 ∨ 7 < c.toNat then .err 30 else if c.toNat = 3 then (match r with
      | [] => .err 11
      | d :: _ => .ok (.mk 3 d.toNat [] []) 2)
    else match Zcu 10 0 r with
      | .ends => .err 11
      | .form => .err 30
      | .ok u n => Z5v (Zdj f) c.toNat u (r.drop n) (n + 1)
def RdLe (rd : List UInt8 → TR) : Prop := ∀ b, (∀ e, rd b = .err e → e ≠ 0) ∧ ∀ v k, rd b = .ok v k → k ≤ b.length
theorem decN_le : ∀ (m i : Nat) (b : List UInt8) (u n : Nat), Zcu m i b = .ok u n → n ≤ b.length
  | 0, i, b, u, n, h => by cases h
  | m + 1, i, [], u, n, h => by cases h
  | m + 1, i, c :: r, u, n, h => by
    simp only [Zcu] at h
    split at h
    · cases hd : Zcu m (i + 1) r with
      | ends => rw [hd] at h; cases h
      | form => rw [hd] at h; cases h
      | ok u' n' =>
        rw [hd] at h
        injection h with h1 h2
        have := decN_le m (i + 1) r u' n' hd
        simp only [List.length_cons]
        omega
    · split at h
      · cases h
      · injection h with h1 h2
        simp only [List.length_cons]
        omega
theorem readVs_le {rd : List UInt8 → TR} (h : RdLe rd) : ∀ (m : Nat) (b : List UInt8) (n : Nat), (∀ e, Z3u rd m b n = .error e → e ≠ 0) ∧ ∀ r, Z3u rd m b n = .ok r → r.2 ≤ n + b.length
  | 0, b, n => ⟨fun e he => (by cases he), fun r hr => (by injection hr with hr; subst hr; simp)⟩
  | m + 1, b, n => by
    simp only [Z3u]
    cases hb : rd b with
    | err e =>
      refine ⟨fun e' he => ?_, fun r hr => by cases hr⟩
      injection he with he
      subst he
      exact (h b).1 e hb
    | ok v k =>
      have hk := (h b).2 v k hb
      obtain ⟨i1, i2⟩ := readVs_le h m (b.drop k) (n + k)
      simp only
      cases hr : Z3u rd m (b.drop k) (n + k) with
      | error e =>
        refine ⟨fun e' he => ?_, fun r hr => by cases hr⟩
        injection he with he
        subst he
        exact i1 e hr
      | ok r =>
        refine ⟨fun e' he => (by cases he), fun r' hr' => ?_⟩
        injection hr' with hr'
        subst hr'
        have := i2 r hr
        rw [List.length_drop] at this
        show r.2 ≤ _
        omega
theorem restV_le {rd : List UInt8 → TR} (h : RdLe rd) (k u : Nat) (b : List UInt8) (n : Nat) : (∀ e, Z5v rd k u b n = .err e → e ≠ 0) ∧ ∀ v m, Z5v rd k u b n = .ok v m → m ≤ n + b.length := by
  unfold Z5v
  split
  · exact ⟨fun e he => (by cases he), fun v m hm => by injection hm with _ hm; omega⟩
  · split
    · exact ⟨fun e he => (by cases he), fun v m hm => by injection hm with _ hm; omega⟩
    · split
      · split
        · exact ⟨fun e he => (by injection he with he; omega), fun v m hm => by cases hm⟩
        · split
          · exact ⟨fun e he => (by injection he with he; omega), fun v m hm => by cases hm⟩
          · exact ⟨fun e he => (by cases he), fun v m hm => by injection hm with _ hm; omega⟩
      · split
        · exact ⟨fun e he => (by injection he with he; omega), fun v m hm => by cases hm⟩
        · obtain ⟨i1, i2⟩ := readVs_le h u b n
          cases hr : Z3u rd u b n with
          | error e => exact ⟨fun e' he => (by injection he with he; subst he; exact i1 e hr), fun v m hm => by cases hm⟩
          | ok r => exact ⟨fun e' he => (by cases he), fun v m hm => by injection hm with _ hm; have := i2 r hr; omega⟩
theorem readV_le : ∀ f, RdLe (Zdj f)
  | 0 => fun b => by
    cases b with
    | nil => exact ⟨fun e he => (by injection he with he; omega), fun v k hk => by cases hk⟩
    | cons c r => exact ⟨fun e he => (by injection he with he; omega), fun v k hk => by cases hk⟩
  | f + 1 => fun b => by
    cases b with
    | nil => exact ⟨fun e he => (by injection he with he; omega), fun v k hk => by cases hk⟩
    | cons c r =>
      simp only [Zdj]
      split
      · exact ⟨fun e he => (by injection he with he; omega), fun v k hk => by cases hk⟩
      · split
        · cases r with
          | nil => exact ⟨fun e he => (by injection he with he; omega), fun v k hk => by cases hk⟩
          | cons d r => exact ⟨fun e he => (by cases he), fun v k hk => by injection hk with _ hk; simp; omega⟩
        · cases hd : Zcu 10 0 r with
          | ends => exact ⟨fun e he => (by injection he with he; omega), fun v k hk => by cases hk⟩
          | form => exact ⟨fun e he => (by injection he with he; omega), fun v k hk => by cases hk⟩
          | ok u n =>
            have hn := decN_le _ _ _ _ _ hd
            obtain ⟨i1, i2⟩ := restV_le (readV_le f) c.toNat u (r.drop n) (n + 1)
            refine ⟨i1, fun v m hm => ?_⟩
            have := i2 v m hm
            rw [List.length_drop] at this
            simp only [List.length_cons]
            omega
theorem decN_lt : ∀ (m i : Nat) (b : List UInt8) (u n : Nat), m + i = 10 → Zcu m i b = .ok u n → u < 2 * 128 ^ (9 - i)
  | 0, i, b, u, n, _, h => by cases h
  | m + 1, i, [], u, n, _, h => by cases h
  | m + 1, i, c :: r, u, n, hm, h => by
    have hc := c.toNat_lt
    simp only [Zcu] at h
    split at h
    · cases hd : Zcu m (i + 1) r with
      | ends => rw [hd] at h; cases h
      | form => rw [hd] at h; cases h
      | ok u' n' =>
        rw [hd] at h
        injection h with h1 h2
        have := decN_lt m (i + 1) r u' n' (by omega) hd
        by_cases h9 : i = 9
        · subst h9
          have : m = 0 := by omega
          subst this
          cases hd
        · have h3 : 9 - i = (9 - (i + 1)) + 1 := by omega
          rw [h3, Nat.pow_succ]
          omega
    · split at h
      · cases h
      · rename_i hn
        injection h with h1 h2
        by_cases h9 : i = 9
        · subst h9
          simp at hn ⊢
          omega
        · have h3 : 128 ^ 1 ≤ 128 ^ (9 - i) := Nat.pow_le_pow_right (by omega) (by omega)
          omega
theorem decN_u64 {b : List UInt8} {u n : Nat} (h : Zcu 10 0 b = .ok u n) : u < 18446744073709551616 := by
  have := decN_lt 10 0 b u n rfl h
  have h9 : (128 : Nat) ^ 9 = 9223372036854775808 := by decide
  rw [show 9 - 0 = 9 from rfl, h9] at this
  omega
theorem zag_val {u : Nat} (hu : u < 18446744073709551616) : IntKind.i64.wrap ((BitVec.ofInt 64 (IntKind.i64.wrap ((u : Int).fdiv (2 ^ (min (1 : Int).toNat IntKind.u64.bits)))) ^^^ BitVec.ofInt 64 (IntKind.i64.wrap (0 - (IntKind.i64.wrap (IntKind.u64.wrap ((BitVec.ofInt 64 (u : Int) &&& BitVec.ofInt 64 1).toNat : Int)))))).toNat : Int) = zagN u := by
  have e1 : (2 : Int) ^ (min (1 : Int).toNat IntKind.u64.bits) = 2 := rfl
  have h1 : IntKind.i64.wrap ((u : Int).fdiv 2) = ((u / 2 : Nat) : Int) := by rw [Int.fdiv_eq_ediv_of_nonneg _ (by omega), Z03]; omega
  have h2 : (BitVec.ofInt 64 (u : Int) &&& BitVec.ofInt 64 1).toNat = u % 2 := by
    have h4 : BitVec.ofInt 64 1 = 1#64 := rfl
    rw [BitVec.ofInt_natCast, h4, BitVec.toNat_and, BitVec.toNat_ofNat, Nat.mod_eq_of_lt (by omega)]
    show u &&& (1 : Nat) = _
    exact Nat.and_one_is_mod u
  have h3 : IntKind.i64.wrap (0 - (IntKind.i64.wrap (IntKind.u64.wrap ((u % 2 : Nat) : Int)))) = -((u % 2 : Nat) : Int) := by
    have a : IntKind.u64.wrap ((u % 2 : Nat) : Int) = ((u % 2 : Nat) : Int) := by rw [Z0t]; omega
    have b : IntKind.i64.wrap ((u % 2 : Nat) : Int) = ((u % 2 : Nat) : Int) := by rw [Z03]; omega
    rw [a, b, Z03]
    omega
  rw [e1, h1, h2, h3]
  unfold zagN
  rcases Nat.mod_two_eq_zero_or_one u with h | h
  · rw [h, if_pos rfl]
    have c : BitVec.ofInt 64 (-((0 : Nat) : Int)) = 0#64 := rfl
    rw [c, BitVec.xor_zero, BitVec.ofInt_natCast, BitVec.toNat_ofNat, Z03]
    omega
  · rw [h, if_neg (by omega)]
    have c : BitVec.ofInt 64 (-((1 : Nat) : Int)) = BitVec.allOnes 64 := rfl
    rw [c, BitVec.xor_allOnes, BitVec.toNat_not, BitVec.ofInt_natCast, BitVec.toNat_ofNat, Z03]
    omega
theorem run_Zag {u : Nat} (hu : u < 18446744073709551616) : T.R (.call n_num_Zag [.int .u64 u] (.int .i64 (zagN u))) := by
  have hz := zag_val hu
  refine Zd rfl rfl ?_
  repeat' first | refine Z1 rfl ?_ | refine Zc rfl rfl ?_ | refine Z0 rfl ?_ | refine Z2 ?_
  rw [← hz]
  rfl
theorem conv_i64 {u : Nat} (hu : u < 18446744073709551616) : IntKind.i64.wrap (u : Int) = sgnN u := by
  unfold sgnN
  rw [Z03]
  split <;> omega
theorem sgn_i64 {u : Nat} (hu : u < 18446744073709551616) : I64 (sgnN u) := by unfold sgnN I64; split <;> omega
theorem zag_i64 {u : Nat} (hu : u < 18446744073709551616) : I64 (zagN u) := by unfold zagN I64; split <;> omega
theorem Z7d {e : EC} {look : Nat → Option Tok} {t a b c n : Nat} {cs : List PV} {x y : PV} (ha : e.get a = some (.ptr t 0)) (hg : look t = some (.var cs)) (hl : cs.length = n) (hb : e.get b = some x) (hc : e.get c = some y) : resG e look [.cell a n true, .tmp b, .tmp c] = some (.tuple [.agg cs, x, y]) := by
  have hld : loadAt look n true (.ptr t 0) = some (.agg cs) := by
    simp only [loadAt, behind, hg, Option.bind_some]
    rw [← hl]
    simp [slice?]
  simp [resG, resGs, resG1, ha, hb, hc, hld]
def RdOk (f : Nat) (args : List PV) (t : TR) : Prop := (∃ e, t = .err e ∧ T.R (.call f args (.tuple [.agg [.int .i64 0, .int .i64 0, .str [], .nilSl], .int .i64 0, .int .i64 e]))) ∨ ∃ v n cs, t = .ok v n ∧ VC v cs ∧ T.R (.call f args (.tuple [.agg cs, .int .i64 n, .int .i64 0]))
theorem run_madeG {v : Val} {cs : List PV} (hv : VC v cs) (n : Nat) : RdOk Zfu [.agg cs, .int .i64 n] (made v n) := by
  have hchk := Z7t hv
  have plc := hv.pl
  have hl4 := hv.len4
  have h1 := hv.one
  have hz : ([.int .i64 0, .int .i64 0, .str [], .nilSl] : List PV).length = cs.length := by rw [hl4]; rfl
  have hst : storeAt ((emptySt.new (.var cs)).new (.var [.int .i64 0, .int .i64 0, .str [], .nilSl])) (.ptr 1 0) (.agg cs) = some (((emptySt.new (.var cs)).new (.var [.int .i64 0, .int .i64 0, .str [], .nilSl])).put 1 (.var cs)) := Z01 rfl hz
  by_cases hm : Zg 8 v = true
  · have hc0 : chk v = 0 := by simp [chk, hm]
    rw [hc0] at hchk
    refine .inr ⟨v, n, cs, by simp [made, hm], hv, ?_⟩
    refine Zd rfl rfl ?_
    repeat' first | refine Z1 rfl ?_ | refine Zb rfl rfl ?_ | ((with_reducible show VO _ _ _ _ _ _ _); first | refine Z0e rfl rfl hl4 ?_ | refine Z7 rfl rfl hchk ?_ | refine Ze rfl rfl h1 hl4 rfl hst ?_ | refine Z0 rfl ?_ | refine Z8 rfl ?_ | refine Z2 ?_)
    exact Z3t (r0 := .tuple [.agg cs, .int .i64 n, .int .i64 0]) rfl (Z7d rfl St.get_put hl4 rfl rfl) (Pl.view (by (repeat' (first | exact Pl.int _ _ | exact Pl.bool _ | exact Pl.str _ | exact Pl.nilSl | exact Z2u | refine Z0b ?_ ?_ | refine Pl.tuple _ ?_ | refine Pl.agg _ ?_ | refine Pl.func _ _ ?_ | assumption | refine Pl.iptr _ _ ?_ | exact Z5y | refine Z3i ?_ ?_ | refine Pl.sl _ _ ?_)); first | done | fail)) rfl
  · have hm' : Zg 8 v = false := by simpa using hm
    have hc0 : chk v = 20 := by simp [chk, hm']
    rw [hc0] at hchk
    refine .inl ⟨30, by simp [made, hm'], ?_⟩
    refine Zd rfl rfl ?_
    repeat' first | ((with_reducible show V _ _ _ _ _ _); first | refine Z1 rfl ?_ | refine Za rfl rfl ?_ | refine Zc rfl rfl ?_) | ((with_reducible show VO _ _ _ _ _ _ _); first | refine Z0e rfl rfl hl4 ?_ | refine Z7 rfl rfl hchk ?_ | refine Z0 rfl ?_ | refine Z8 rfl ?_ | refine Z2 ?_)
    rfl
def RowOf (l : List Val) (xs : List (List PV)) : Prop := xs.length = l.length ∧ ∀ (j : Nat) (v : Val) (cs : List PV), l[j]? = some v → xs[j]? = some cs → VC v cs
theorem RowOf.snoc {l : List Val} {xs : List (List PV)} {v : Val} {cs : List PV} (h : RowOf l xs) (hv : VC v cs) : RowOf (l ++ [v]) (xs ++ [cs]) := by
  refine ⟨by simp [h.1], fun j w ds hj hd => ?_⟩
  by_cases hjl : j < l.length
  · rw [List.getElem?_append_left hjl] at hj
    rw [List.getElem?_append_left (by rw [h.1]; exact hjl)] at hd
    exact h.2 j w ds hj hd
  · rw [List.getElem?_append_right (by omega)] at hj
    rw [List.getElem?_append_right (by rw [h.1]; omega), h.1] at hd
    have h0 : j - l.length = 0 := by
      have := (List.getElem?_eq_some_iff.1 hj).1
      simp at this
      omega
    rw [h0] at hj hd
    injection hj with hj
    injection hd with hd
    subst hj hd
    exact hv
theorem AccT.cells {sz : Nat} {st : St} {v : PV} {es : List (List PV)} (h : AccT sz st v es) : v.cells = [v] ∧ PV.one v = true := by
  rcases h with ⟨rfl, _⟩ | ⟨t, g, rfl, _⟩ <;> exact ⟨rfl, rfl⟩
theorem AccT.put {sz : Nat} {st : St} {v : PV} {es : List (List PV)} (h : AccT sz st v es) {t : Nat} (ht : Z0q v ≠ some t) (k : Tok) : AccT sz (st.put t k) v es := by
  rcases h with h | ⟨u, g, rfl, hg, hlt⟩
  · exact .inl h
  · refine .inr ⟨u, g, rfl, ?_, hlt⟩
    rw [St.get_put_old (fun e => ht (by rw [e]; rfl))]
    exact hg
def LS (k : Int) (st : St) (v : PV) (xs : List (List PV)) : Prop := AccT 4 st v xs ∧ 2 ≤ st.next ∧ st.get 0 = some (.var [.int .i64 k, .int .i64 0, .str [], v]) ∧ (∃ a b c d, st.get 1 = some (.var [a, b, c, d])) ∧ Z0q v ≠ some 0 ∧ Z0q v ≠ some 1
theorem LS.var {k : Int} {st : St} {v : PV} {xs : List (List PV)} (h : LS k st v xs) (z cs : List PV) : LS k ((st.new (.var z)).put st.next (.var cs)) v xs := by
  obtain ⟨h1, h2, h3, ⟨a, b, c, d, h4⟩, h5, h6⟩ := h
  have hlt : ∀ u, u < st.next → ((st.new (.var z)).put st.next (.var cs)).get u = st.get u := fun u hu => by rw [St.get_put_old (by omega), St.get_new_old hu]
  refine ⟨?_, by simp [St.new, St.put]; omega, by rw [hlt 0 (by omega)]; exact h3, ⟨a, b, c, d, by rw [hlt 1 (by omega)]; exact h4⟩, h5, h6⟩
  rcases h1 with h | ⟨t, g, rfl, hg, hl⟩
  · exact .inl h
  · exact .inr ⟨t, g, rfl, by rw [hlt t hl]; exact hg, by simp [St.new, St.put]; omega⟩
theorem LS.grow {k : Int} {st : St} {v : PV} {xs : List (List PV)} (h : LS k st v xs) (cs : List PV) (hr : (xs.length + 1) * 56 ≤ Z06) : ∃ v' st', Z0d st 4 56 v [cs] = some (v', st') ∧ st'.get 0 = some (.var [.int .i64 k, .int .i64 0, .str [], v]) ∧ v'.cells = [v'] ∧ PV.one v' = true ∧ LS k (st'.put 0 (.var [.int .i64 k, .int .i64 0, .str [], v'])) v' (xs ++ [cs]) := by
  obtain ⟨h1, h2, h3, ⟨a, b, c, d, h4⟩, h5, h6⟩ := h
  obtain ⟨v', st', k1, k2, k3⟩ := h1.grow (bytes := 56) (src := [cs]) (by simp) (by simpa using hr)
  have hn := k3.2.1
  have t0 : ∀ u, u < 2 → Z0q v ≠ some u → Z0q v' ≠ some u := fun u hu hv => by
    rcases k3.2.2.1 with h | ⟨m, h, hm⟩
    · rw [h]; exact hv
    · rw [h]; intro e; injection e; omega
  refine ⟨v', st', k1, by rw [k3.2.2.2 0 (by omega) h5]; exact h3, (AccT.cells k2).1, (AccT.cells k2).2, AccT.put k2 (t0 0 (by omega) h5) _, by simp [St.put]; omega, St.get_put, ⟨a, b, c, d, by rw [St.get_put_old (by omega), k3.2.2.2 1 (by omega) h6]; exact h4⟩, t0 0 (by omega) h5, t0 1 (by omega) h6⟩
theorem okEls1 {cs : List PV} (h4 : cs.length = 4) (h : cs.all PV.one = true) : okEls 4 [cs] = true := by
  simp only [okEls, List.all_cons, List.all_nil, Bool.and_true, Bool.and_eq_true]
  exact ⟨by simp [h4], h⟩
def restP (k : Int) (l : List Val) (t : Except Int (List Val × Nat)) : EX → EC → St → Prop := fun x e' st' => (x = .exit 1 ∧ ∃ l' n v xs, t = .ok (l', n) ∧ LS k st' v xs ∧ RowOf (l ++ l') xs ∧ xs.length ≤ 512 ∧ e' = .put 3 (.int .i64 (n : Nat)) (.put 5 (.ptr 0 0) (.put 10 (.ptr 1 0) .nil))) ∨ (x = .ret ∧ ∃ err, t = .error err ∧ st'.get 1 = some (.var [.int .i64 0, .int .i64 0, .str [], .nilSl]) ∧ e' = .put 10 (.ptr 1 0) (.put 11 (.int .i64 0) (.put 12 (.int .i64 err) .nil)))
set_option maxHeartbeats 4000000 in
theorem rest_loop (k d : Int) (hd : 0 ≤ d ∧ d ≤ 100) (U : Nat) (hU : U ≤ 512) (p : PV) (b0 : List UInt8) (hp : BV p b0) (hb0 : b0.length ≤ 1073741824) (rd : List UInt8 → TR) (hle : RdLe rd) (hrd : ∀ (q : PV) (b : List UInt8), BV q b → b.length ≤ 1073741824 → RdOk Z4o [q, .int .i64 (d + 1)] (rd b)) :
    ∀ (m i n : Nat) (l : List Val) (xs : List (List PV)) (e : EC) (st : St) (v : PV), i + m = U → xs.length = i → n ≤ b0.length → RowOf l xs → LS k st v xs → e.get 2 = some p → e.get 3 = some (.int .i64 n) → e.get 4 = some (.int .i64 d) → e.get 5 = some (.ptr 0 0) → e.get 10 = some (.ptr 1 0) → e.get 81 = some (.int .u64 U) → e.get 82 = some (.int .u64 i) →
    V T (PE (restP k l (Z3u rd m (b0.drop n) n))) [.code (.loop Z6e)] .normal e st := by
  intro m
  have out : ∀ (l : List Val) (t : Except Int (List Val × Nat)) (n : Nat) (xs : List (List PV)) (v : PV) (fr : List Fr) (x : EX) (e' : EC) (st : St), t = .ok ([], n) → LS k st v xs → RowOf l xs → xs.length ≤ 512 → Zm 200 fr x = ([], .exit 1) → e'.get 3 = some (.int .i64 n) → e'.get 5 = some (.ptr 0 0) → e'.get 10 = some (.ptr 1 0) → V T (PE (restP k l t)) fr x e' st := fun l t n xs v fr x e' st ht hL hR hxl hadv g3 g5 g10 =>
    Zn (.put 3 _ (.put 5 _ (.put 10 _ .nil))) (Z3 g3 (Z3 g5 (Z3 g10 Zp))) (Z18 hadv (.inl ⟨rfl, [], n, v, xs, ht, hL, by simpa using hR, hxl, rfl⟩))
  have ret : ∀ (l : List Val) (t : Except Int (List Val × Nat)) (err : Int) (fr : List Fr) (x : EX) (e' : EC) (st : St), t = .error err → Zm 200 fr x = ([], .ret) → st.get 1 = some (.var [.int .i64 0, .int .i64 0, .str [], .nilSl]) → e'.get 10 = some (.ptr 1 0) → e'.get 11 = some (.int .i64 0) → e'.get 12 = some (.int .i64 err) → V T (PE (restP k l t)) fr x e' st := fun l t err fr x e' st ht hadv hg g10 g11 g12 =>
    Zn (.put 10 _ (.put 11 _ (.put 12 _ .nil))) (Z3 g10 (Z3 g11 (Z3 g12 Zp))) (Z18 hadv (.inr ⟨rfl, err, ht, hg, rfl⟩))
  induction m with
  | zero =>
    intro i n l xs e st v him hxi hn hR hL h2 h3 h4 h5 h10 h81 h82
    have hlt : ¬ ((i : Int) < (U : Int)) := by omega
    refine Zn (.put 3 _ (.put 5 _ (.put 10 _ (.put 81 _ (.put 82 _ .nil))))) (Z3 h3 (Z3 h5 (Z3 h10 (Z3 h81 (Z3 h82 Zp))))) (Zi ?_)
    repeat' first | refine Z1 rfl ?_ | refine Zb rfl rfl ?_ | refine Z4 (Zh hlt) rfl ?_ | refine Z2 ?_ | refine out _ _ _ _ _ _ _ _ _ rfl hL hR (by omega) rfl rfl rfl rfl
  | succ m ih =>
    intro i n l xs e st v him hxi hn hR hL h2 h3 h4 h5 h10 h81 h82
    have hlt : ((i : Int) < (U : Int)) := by omega
    obtain ⟨v1, hv1, hb1⟩ := hp.lo st.get (k := .i64) (m := (n : Int)) (by omega) (by omega)
    rw [Int.toNat_natCast] at hb1
    have pl1 := hb1.pl
    have hwd : PV.int .i64 (IntKind.i64.wrap (d + 1)) = PV.int .i64 (d + 1) := Z1u (by rw [Z03]; omega)
    have hdl : (b0.drop n).length = b0.length - n := List.length_drop ..
    rcases hrd v1 (b0.drop n) hb1 (by omega) with ⟨err, ht, hc⟩ | ⟨w, kk, cs, ht, hvc, hc⟩
    · have hne := (hle (b0.drop n)).1 err ht
      have hr : Z3u rd (m + 1) (b0.drop n) n = .error err := by simp only [Z3u, ht]
      rw [hr]
      have hL2 := hL.var [.int .i64 0, .int .i64 0, .str [], .nilSl] [.int .i64 0, .int .i64 0, .str [], .nilSl]
      have hst0 : storeAt (st.new (.var [.int .i64 0, .int .i64 0, .str [], .nilSl])) (.ptr st.next 0) (.agg [.int .i64 0, .int .i64 0, .str [], .nilSl]) = some ((st.new (.var [.int .i64 0, .int .i64 0, .str [], .nilSl])).put st.next (.var [.int .i64 0, .int .i64 0, .str [], .nilSl])) := Z01 St.get_new rfl
      generalize (st.new (.var [.int .i64 0, .int .i64 0, .str [], .nilSl])).put st.next (.var [.int .i64 0, .int .i64 0, .str [], .nilSl]) = S at hL2 hst0
      obtain ⟨_, _, _, ⟨a, b, c, dd, hg1⟩, _, _⟩ := hL2
      refine Zn (.put 2 p (.put 3 _ (.put 4 _ (.put 5 _ (.put 10 _ (.put 81 _ (.put 82 _ .nil))))))) (Z3 h2 (Z3 h3 (Z3 h4 (Z3 h5 (Z3 h10 (Z3 h81 (Z3 h82 Zp))))))) (Zi ?_)
      clear ih out
      repeat' first | refine Z1 rfl ?_ | refine Za rfl rfl ?_ | ((with_reducible show VO _ _ _ _ _ _ _); first | refine Z4 (Zs hlt) rfl ?_ | refine Z16 v1 rfl rfl rfl rfl hv1 ?_ | refine Z4 hwd rfl ?_ | refine Z7 rfl rfl hc ?_ | refine Ze rfl rfl rfl rfl rfl hst0 ?_ | refine Z4 (Zal hne) rfl ?_ | refine Z7 rfl rfl (Z0v _) ?_ | refine Ze rfl rfl rfl rfl rfl (Z01 hg1 rfl) ?_ | refine Z0 rfl ?_ | refine Z8 rfl ?_ | refine Z2 ?_) | refine ret _ _ err _ _ _ _ rfl rfl St.get_put rfl rfl rfl
    · have hkl := (hle (b0.drop n)).2 w kk ht
      have hr : Z3u rd (m + 1) (b0.drop n) n = (Z3u rd m (b0.drop (n + kk)) (n + kk)).map fun r => (w :: r.1, r.2) := by simp only [Z3u, ht, List.drop_drop]
      have hL2 := hL.var [.int .i64 0, .int .i64 0, .str [], .nilSl] cs
      have hst0 : storeAt (st.new (.var [.int .i64 0, .int .i64 0, .str [], .nilSl])) (.ptr st.next 0) (.agg cs) = some ((st.new (.var [.int .i64 0, .int .i64 0, .str [], .nilSl])).put st.next (.var cs)) := Z01 St.get_new (by rw [hvc.len4]; rfl)
      have hgS : ((st.new (.var [.int .i64 0, .int .i64 0, .str [], .nilSl])).put st.next (.var cs)).get st.next = some (.var cs) := St.get_put
      generalize (st.new (.var [.int .i64 0, .int .i64 0, .str [], .nilSl])).put st.next (.var cs) = S at hL2 hst0 hgS
      have h0 : ¬ ((0 : Int) ≠ 0) := by omega
      have plc := hvc.pl
      have hR2 := hR.snoc hvc
      obtain ⟨v2, st2, k1, k2, k3, k4, k5⟩ := hL2.grow cs (by rw [hxi]; simp only [Z06]; omega)
      have hg0 := hL2.2.2.1
      have hw3 : PV.int .i64 (IntKind.i64.wrap ((n : Int) + (kk : Int))) = PV.int .i64 ((n + kk : Nat) : Int) := Z1u (by rw [Z03]; omega)
      have hwi : PV.int .u64 (IntKind.u64.wrap ((i : Int) + 1)) = PV.int .u64 ((i + 1 : Nat) : Int) := Z1u (by rw [Z0t]; omega)
      have fin : ∀ (fr : List Fr) (x : EX) (e' : EC), Zm 200 fr x = ([.code (.loop Z6e)], .normal) → e'.get 2 = some p → e'.get 3 = some (.int .i64 ((n + kk : Nat) : Int)) → e'.get 4 = some (.int .i64 d) → e'.get 5 = some (.ptr 0 0) → e'.get 10 = some (.ptr 1 0) → e'.get 81 = some (.int .u64 U) → e'.get 82 = some (.int .u64 ((i + 1 : Nat) : Int)) → V T (PE (restP k l (Z3u rd (m + 1) (b0.drop n) n))) fr x e' (st2.put 0 (.var [.int .i64 k, .int .i64 0, .str [], v2])) := fun fr x e' hadv g2 g3 g4 g5 g10 g81 g82 => Z34 hadv (by
        rw [hr]
        refine Z8q (ih (i + 1) (n + kk) (l ++ [w]) (xs ++ [cs]) e' _ v2 (by omega) (by simp [hxi]) (by omega) hR2 k5 g2 g3 g4 g5 g10 g81 g82) ?_
        rintro x e2 st3 (⟨hx, l', n', v', xs', htt, hL', hR', hxl, he⟩ | ⟨hx, err, htt, hg, he⟩)
        · refine .inl ⟨hx, w :: l', n', v', xs', by rw [htt]; rfl, hL', by simpa using hR', hxl, he⟩
        · exact .inr ⟨hx, err, by rw [htt]; rfl, hg, he⟩)
      obtain ⟨wk, wn, ws, wl⟩ := w
      obtain ⟨q1, q2, q3, q, rfl, hq⟩ := hvc.open
      have plq := hq.pl
      have oq := hvc.one
      refine Zn (.put 2 p (.put 3 _ (.put 4 _ (.put 5 _ (.put 10 _ (.put 81 _ (.put 82 _ .nil))))))) (Z3 h2 (Z3 h3 (Z3 h4 (Z3 h5 (Z3 h10 (Z3 h81 (Z3 h82 Zp))))))) (Zi ?_)
      clear ih out ret
      repeat' first | ((with_reducible show V _ _ _ _ _ _); first | refine Z1 rfl ?_ | refine Za rfl rfl ?_ | refine Zb rfl rfl ?_) | ((with_reducible show VO _ _ _ _ _ _ _); first | refine Z4 (Zs hlt) rfl ?_ | refine Z16 v1 rfl rfl rfl rfl hv1 ?_ | refine Z4 hwd rfl ?_ | refine Z7 rfl rfl hc ?_ | refine Ze rfl rfl oq rfl rfl hst0 ?_ | refine Z4 hw3 rfl ?_ | refine Z4 hwi rfl ?_ | refine Zr rfl hg0 rfl ?_ | refine Z0e rfl hgS rfl ?_ | refine Z04 (src := [[.int .i64 wk, .int .i64 wn, .str ws, q]]) rfl rfl rfl (okEls1 rfl oq) (by decide) (by decide) k1 ?_ | refine O_storeP rfl rfl k3 k4 k2 (by show 3 + 1 ≤ 4; omega) rfl ?_ | refine Z0 rfl ?_ | refine Z8 rfl ?_ | refine Z2 ?_) | refine fin _ _ _ rfl rfl rfl rfl rfl rfl rfl rfl
theorem LS.res {k : Int} {st : St} {v : PV} {l : List Val} {xs : List (List PV)} (h : LS k st v xs) (hR : RowOf l xs) (hx : xs.length ≤ 512) : ∃ q, LC l q ∧ View true st.get v q ∧ Pl q := by
  rcases h.1 with ⟨rfl, h0⟩ | ⟨t, g, rfl, hg, _⟩
  · have hl : l = [] := by
      have := hR.1
      rw [h0] at this
      exact List.length_eq_zero_iff.1 this.symm
    exact ⟨.nilSl, .inl ⟨rfl, hl⟩, .nilSl, .nilSl⟩
  · have hLC : LC l (.sl xs false) := .inr ⟨xs, false, rfl, by rw [← hR.1]; omega, hR.1, hR.2⟩
    refine ⟨.sl xs false, hLC, Z5p hg (.inl rfl) rfl (fun cs hcs c hc => ?_), hLC.pl⟩
    obtain ⟨j, hj⟩ := List.getElem?_of_mem hcs
    have hlt : j < l.length := by have := (List.getElem?_eq_some_iff.1 hj).1; rw [hR.1] at this; exact this
    exact (hR.2 j l[j] cs (List.getElem?_eq_getElem hlt) hj).pl c hc
theorem view_agg {live : Bool} {look : Nat → Option Tok} {xs ys : List PV} (h : Z2a live look xs ys) : View live look (.agg xs) (.agg ys) := .agg _ _ h.1 h.2
theorem all_one4 {a b c v : PV} (ha : PV.one a = true) (hb : PV.one b = true) (hc : PV.one c = true) (hv : PV.one v = true) : (PV.agg [a, b, c, v]).cells.all PV.one = true := by
  show [a, b, c, v].all PV.one = true
  simp [ha, hb, hc, hv]
set_option maxHeartbeats 8000000 in
theorem run_rest (k d : Int) (hd : 0 ≤ d ∧ d ≤ 100) (u : Nat) (hu : u < 18446744073709551616) (n : Nat) (p : PV) (b0 : List UInt8) (hp : BV p b0) (hb0 : b0.length ≤ 1073741824) (hn : n ≤ b0.length) (rd : List UInt8 → TR) (hle : RdLe rd) (hrd : ∀ (q : PV) (b : List UInt8), BV q b → b.length ≤ 1073741824 → RdOk Z4o [q, .int .i64 (d + 1)] (rd b))
    (kn : Nat) (hkn : k = (kn : Int)) (hk : kn = 1 ∨ kn = 2 ∨ kn = 4 ∨ kn = 5 ∨ kn = 6 ∨ kn = 7) : RdOk Zft [.agg [.int .i64 k, .int .i64 0, .str [], .nilSl], .int .u64 u, p, .int .i64 n, .int .i64 d] (Z5v rd kn u (b0.drop n) n) := by
  have plp := hp.pl
  have hdl : (b0.drop n).length = b0.length - n := List.length_drop ..
  have hconv : PV.int .i64 (IntKind.i64.wrap (u : Int)) = PV.int .i64 (sgnN u) := Z1u (conv_i64 hu)
  rcases hk with rfl | rfl | h4567
  · have hk1 : k = 1 := by omega
    subst hk1
    have hz := run_Zag hu
    refine .inr ⟨.mk 1 (zagN u) [] [], n, _, by simp [Z5v], .nil _ _ _ (by simp [I64]) (zag_i64 hu) (by simp), ?_⟩
    refine Zd rfl rfl ?_
    repeat' first | ((with_reducible show V _ _ _ _ _ _); first | refine Z1 rfl ?_ | refine Za rfl rfl ?_ | refine Zc rfl rfl ?_) | ((with_reducible show VO _ _ _ _ _ _ _); first | refine Z7 rfl rfl hz ?_ | refine Z0 rfl ?_ | refine Z8 rfl ?_ | refine Z2 ?_)
    rfl
  · have hk1 : k = 2 := by omega
    subst hk1
    by_cases h1 : 128 < u
    · have h1' : (128 : Int) < (u : Int) := by omega
      refine .inl ⟨30, by simp [Z5v, h1], ?_⟩
      refine Zd rfl rfl ?_
      repeat' first | ((with_reducible show V _ _ _ _ _ _); first | refine Z1 rfl ?_ | refine Za rfl rfl ?_ | refine Zb rfl rfl ?_ | refine Zc rfl rfl ?_) | ((with_reducible show VO _ _ _ _ _ _ _); first | refine Z4 (Zs h1') rfl ?_ | refine Z7 rfl rfl (Z0v _) ?_ | refine Z0 rfl ?_ | refine Z8 rfl ?_ | refine Z2 ?_)
      rfl
    · have h1' : ¬ (128 : Int) < (u : Int) := by omega
      have hcu : PV.int .i64 (IntKind.i64.wrap (u : Int)) = PV.int .i64 (u : Int) := Z1u (by rw [Z03]; omega)
      have hsub : PV.int .i64 (IntKind.i64.wrap ((b0.length : Int) - (n : Int))) = PV.int .i64 ((b0.length : Int) - (n : Int)) := Z1u (by rw [Z03]; omega)
      by_cases h2 : b0.length - n < u
      · have h2' : (b0.length : Int) - (n : Int) < (u : Int) := by omega
        refine .inl ⟨11, by simp [Z5v, h1, hdl, h2], ?_⟩
        refine Zd rfl rfl ?_
        repeat' first | ((with_reducible show V _ _ _ _ _ _); first | refine Z1 rfl ?_ | refine Za rfl rfl ?_ | refine Zb rfl rfl ?_ | refine Zc rfl rfl ?_) | ((with_reducible show VO _ _ _ _ _ _ _); first | refine Z4 (Zh h1') rfl ?_ | refine Z4 hcu rfl ?_ | refine Z0a rfl hp ?_ | refine Z4 hsub rfl ?_ | refine Z4 (Zs h2') rfl ?_ | refine Z7 rfl rfl (Z0v _) ?_ | refine Z0 rfl ?_ | refine Z8 rfl ?_ | refine Z2 ?_)
        rfl
      · have h2' : ¬ (b0.length : Int) - (n : Int) < (u : Int) := by omega
        have hadd : PV.int .i64 (IntKind.i64.wrap ((n : Int) + (u : Int))) = PV.int .i64 ((n + u : Nat) : Int) := Z1u (by rw [Z03]; omega)
        let S : St := (emptySt.new (.var [.int .i64 2, .int .i64 0, .str [], .nilSl])).new (.var [.int .i64 0, .int .i64 0, .str [], .nilSl])
        obtain ⟨v2, hv2, hb2⟩ := hp.lohi S.get (k := .i64) (k' := .i64) (m := (n : Int)) (m' := ((n + u : Nat) : Int)) (by omega) (by omega) (by omega)
        have hcut : (b0.drop (n : Int).toNat).take (((n + u : Nat) : Int).toNat - (n : Int).toNat) = (b0.drop n).take u := by
          rw [Int.toNat_natCast, Int.toNat_natCast, Nat.add_sub_cancel_left]
        rw [hcut] at hb2
        have hel : Z1b S.get v2 = some (Z5 ((b0.drop n).take u)) := RB.elems (hb2.rb S)
        refine .inr ⟨.mk 2 0 ((b0.drop n).take u) [], n + u, _, by simp [Z5v, h1, hdl, h2], .nil _ _ _ (by simp [I64]) (by simp [I64]) (by rw [List.length_take]; omega), ?_⟩
        refine Zd rfl rfl ?_
        repeat' first | ((with_reducible show V _ _ _ _ _ _); first | refine Z1 rfl ?_ | refine Za rfl rfl ?_ | refine Zb rfl rfl ?_ | refine Zc rfl rfl ?_) | ((with_reducible show VO _ _ _ _ _ _ _); first | refine Z4 (Zh h1') rfl ?_ | refine Z4 hadd rfl ?_ | refine Z4 hcu rfl ?_ | refine Z0a rfl hp ?_ | refine Z4 hsub rfl ?_ | refine Z4 (Zh h2') rfl ?_ | refine Z16 v2 rfl rfl rfl rfl hv2 ?_ | refine O_toStrA rfl hel ?_ | refine Z0 rfl ?_ | refine Z8 rfl ?_ | refine Z2 ?_)
        rfl
  · by_cases h67 : kn = 6 ∨ kn = 7
    · have hr : Z5v rd kn u (b0.drop n) n = .ok (.mk k (sgnN u) [] []) n := by
        unfold Z5v
        rw [if_neg (by omega), if_pos h67, hkn]
      rw [hr]
      refine .inr ⟨_, _, _, rfl, .nil _ _ _ (by unfold I64; omega) (sgn_i64 hu) (by simp), ?_⟩
      rcases h67 with rfl | rfl
      · have hk1 : k = 6 := by omega
        subst hk1
        refine Zd rfl rfl ?_
        repeat' first | ((with_reducible show V _ _ _ _ _ _); first | refine Z1 rfl ?_ | refine Za rfl rfl ?_ | refine Zb rfl rfl ?_ | refine Zc rfl rfl ?_) | ((with_reducible show VO _ _ _ _ _ _ _); first | refine Z4 hconv rfl ?_ | refine Z0 rfl ?_ | refine Z8 rfl ?_ | refine Z2 ?_)
        rfl
      · have hk1 : k = 7 := by omega
        subst hk1
        refine Zd rfl rfl ?_
        repeat' first | ((with_reducible show V _ _ _ _ _ _); first | refine Z1 rfl ?_ | refine Za rfl rfl ?_ | refine Zb rfl rfl ?_ | refine Zc rfl rfl ?_) | ((with_reducible show VO _ _ _ _ _ _ _); first | refine Z4 hconv rfl ?_ | refine Z0 rfl ?_ | refine Z8 rfl ?_ | refine Z2 ?_)
        rfl
    · have h45 : kn = 4 ∨ kn = 5 := by omega
      by_cases hbig : 512 < u ∨ (kn = 4 ∧ 256 < u)
      · have hr : Z5v rd kn u (b0.drop n) n = .err 30 := by
          unfold Z5v
          rw [if_neg (by omega), if_neg (by omega), if_neg (by omega), if_pos hbig]
        rw [hr]
        refine .inl ⟨30, rfl, ?_⟩
        by_cases h512 : 512 < u
        · have h5' : (512 : Int) < (u : Int) := by omega
          rcases h45 with rfl | rfl
          · have hk1 : k = 4 := by omega
            subst hk1
            refine Zd rfl rfl ?_
            repeat' first | ((with_reducible show V _ _ _ _ _ _); first | refine Z1 rfl ?_ | refine Za rfl rfl ?_ | refine Zb rfl rfl ?_ | refine Zc rfl rfl ?_) | ((with_reducible show VO _ _ _ _ _ _ _); first | refine Z4 (Zs h5') rfl ?_ | refine Z7 rfl rfl (Z0v _) ?_ | refine Z0 rfl ?_ | refine Z8 rfl ?_ | refine Z2 ?_ | refine Zjd rfl ?_ | refine Z0s rfl rfl ?_)
            rfl
          · have hk1 : k = 5 := by omega
            subst hk1
            refine Zd rfl rfl ?_
            repeat' first | ((with_reducible show V _ _ _ _ _ _); first | refine Z1 rfl ?_ | refine Za rfl rfl ?_ | refine Zb rfl rfl ?_ | refine Zc rfl rfl ?_) | ((with_reducible show VO _ _ _ _ _ _ _); first | refine Z4 (Zs h5') rfl ?_ | refine Z7 rfl rfl (Z0v _) ?_ | refine Z0 rfl ?_ | refine Z8 rfl ?_ | refine Z2 ?_ | refine Zjd rfl ?_ | refine Z0s rfl rfl ?_)
            rfl
        · have h5' : ¬ (512 : Int) < (u : Int) := by omega
          have h2' : (256 : Int) < (u : Int) := by omega
          have hk1 : k = 4 := by omega
          subst hk1
          refine Zd rfl rfl ?_
          repeat' first | ((with_reducible show V _ _ _ _ _ _); first | refine Z1 rfl ?_ | refine Za rfl rfl ?_ | refine Zb rfl rfl ?_ | refine Zc rfl rfl ?_) | ((with_reducible show VO _ _ _ _ _ _ _); first | refine Z4 (Zh h5') rfl ?_ | refine Z4 (Zs h2') rfl ?_ | refine Z7 rfl rfl (Z0v _) ?_ | refine Z0 rfl ?_ | refine Z8 rfl ?_ | refine Z2 ?_ | refine Zf rfl ?_)
          rfl
      · have hr : Z5v rd kn u (b0.drop n) n = match Z3u rd u (b0.drop n) n with
            | .error e => .err e
            | .ok r => .ok (.mk (kn : Int) 0 [] r.1) r.2 := by
          unfold Z5v
          rw [if_neg (by omega), if_neg (by omega), if_neg (by omega), if_neg hbig]
          all_goals (cases Z3u rd u (b0.drop n) n <;> rfl)
        have h5' : ¬ (512 : Int) < (u : Int) := by omega
        have hloop := fun e h2 h3 h4 h5 h10 h81 h82 => rest_loop k d hd u (by omega) p b0 hp hb0 rd hle hrd u 0 n [] [] e ((emptySt.new (.var [.int .i64 k, .int .i64 0, .str [], .nilSl])).new (.var [.int .i64 0, .int .i64 0, .str [], .nilSl])) .nilSl (by omega) rfl hn ⟨rfl, fun j v cs h => by simp at h⟩ ⟨.inl ⟨rfl, rfl⟩, by show 2 ≤ 2; omega, rfl, ⟨_, _, _, _, rfl⟩, by simp [Z0q], by simp [Z0q]⟩ h2 h3 h4 h5 h10 h81 h82
        have key : ∃ r, T.R (.call Zft [.agg [.int .i64 k, .int .i64 0, .str [], .nilSl], .int .u64 u, p, .int .i64 n, .int .i64 d] r) ∧ ((∃ e, Z5v rd kn u (b0.drop n) n = .err e ∧ r = .tuple [.agg [.int .i64 0, .int .i64 0, .str [], .nilSl], .int .i64 0, .int .i64 e]) ∨ ∃ v m cs, Z5v rd kn u (b0.drop n) n = .ok v m ∧ VC v cs ∧ r = .tuple [.agg cs, .int .i64 m, .int .i64 0]) := by
          have k4 : k = 4 → ¬ (256 : Int) < (u : Int) := fun h => by omega
          have hI : I64 k := by unfold I64; omega
          rcases h45 with rfl | rfl
          · have hk1 : k = 4 := by omega
            subst hk1
            have h256 := k4 rfl
            clear k4
            refine Z6o rfl rfl ?_
            repeat' first | ((with_reducible show V _ _ _ _ _ _); first | refine Z3r rfl (hloop _ rfl rfl rfl rfl rfl rfl rfl) ?_ | refine Z1 rfl ?_ | refine Zb rfl rfl ?_) | ((with_reducible show VO _ _ _ _ _ _ _); first | refine Z4 (Zh h5') rfl ?_ | refine Z4 (Zh h256) rfl ?_ | refine Z0 rfl ?_ | refine Z8 rfl ?_ | refine Z2 ?_ | refine Zf rfl ?_)
            rintro x e' st' (⟨rfl, l', n', v, xs, ht, hL, hR, hxl, rfl⟩ | ⟨rfl, err, ht, hg, rfl⟩)
            · obtain ⟨q, hq, hvw, plq⟩ := LS.res hL hR hxl
              obtain ⟨hA, _, hg0, ⟨a, b, c, dd, hg1⟩, t0, t1⟩ := hL
              have hone := (AccT.cells hA).2
              obtain ⟨q2, hq2, hvw2, plq2⟩ : ∃ q, LC l' q ∧ View true (st'.put 1 (.var [.int .i64 4, .int .i64 0, .str [], v])).get v q ∧ Pl q := by
                have hL' : LS 4 (st'.put 1 (.var [.int .i64 4, .int .i64 0, .str [], v])) v xs := ⟨AccT.put hA t1 _, by simp [St.put]; omega, by rw [St.get_put_old (by omega)]; exact hg0, ⟨_, _, _, _, St.get_put⟩, t0, t1⟩
                exact LS.res hL' hR hxl
              repeat' first | refine Z1 rfl ?_ | ((with_reducible show VO _ _ _ _ _ _ _); first | refine Z0e rfl hg0 rfl ?_ | refine Ze rfl rfl (all_one4 rfl rfl rfl hone) rfl rfl (Z01 hg1 rfl) ?_ | refine Z0 rfl ?_ | refine Z2 ?_)
              refine Z3t (r := .tuple [.agg [.int .i64 4, .int .i64 0, .str [], q2], .int .i64 (n' : Nat), .int .i64 0]) rfl (Z7d rfl St.get_put rfl rfl rfl) (Zes (Z0m (view_agg (Z0m (.int _ _) (Z0m (.int _ _) (Z0m (.str _) (Z0m hvw2 Z5q))))) (Z0m (.int _ _) (Z0m (.int _ _) Z5q)))) ?_
              exact .inr ⟨.mk 4 0 [] l', n', _, by rw [hr, ht]; rfl, hq2.vc hI (by simp [I64]) (by simp), rfl⟩
            · refine Z3t (r := .tuple [.agg [.int .i64 0, .int .i64 0, .str [], .nilSl], .int .i64 0, .int .i64 err]) rfl (Z7d rfl hg rfl rfl rfl) (Pl.view (by (repeat' (first | exact Pl.int _ _ | exact Pl.bool _ | exact Pl.str _ | exact Pl.nilSl | exact Z2u | refine Z0b ?_ ?_ | refine Pl.tuple _ ?_ | refine Pl.agg _ ?_ | refine Pl.func _ _ ?_ | assumption | refine Pl.iptr _ _ ?_ | exact Z5y | refine Z3i ?_ ?_ | refine Pl.sl _ _ ?_)); first | done | fail)) ?_
              exact .inl ⟨err, by rw [hr, ht], rfl⟩
          · have hk1 : k = 5 := by omega
            subst hk1
            clear k4
            refine Z6o rfl rfl ?_
            repeat' first | ((with_reducible show V _ _ _ _ _ _); first | refine Z3r rfl (hloop _ rfl rfl rfl rfl rfl rfl rfl) ?_ | refine Z1 rfl ?_ | refine Zb rfl rfl ?_) | ((with_reducible show VO _ _ _ _ _ _ _); first | refine Z4 (Zh h5') rfl ?_ | refine Z0 rfl ?_ | refine Z8 rfl ?_ | refine Z2 ?_ | refine Zf rfl ?_ | refine Z0s rfl rfl ?_)
            rintro x e' st' (⟨rfl, l', n', v, xs, ht, hL, hR, hxl, rfl⟩ | ⟨rfl, err, ht, hg, rfl⟩)
            · obtain ⟨q, hq, hvw, plq⟩ := LS.res hL hR hxl
              obtain ⟨hA, _, hg0, ⟨a, b, c, dd, hg1⟩, t0, t1⟩ := hL
              have hone := (AccT.cells hA).2
              obtain ⟨q2, hq2, hvw2, plq2⟩ : ∃ q, LC l' q ∧ View true (st'.put 1 (.var [.int .i64 5, .int .i64 0, .str [], v])).get v q ∧ Pl q := by
                have hL' : LS 5 (st'.put 1 (.var [.int .i64 5, .int .i64 0, .str [], v])) v xs := ⟨AccT.put hA t1 _, by simp [St.put]; omega, by rw [St.get_put_old (by omega)]; exact hg0, ⟨_, _, _, _, St.get_put⟩, t0, t1⟩
                exact LS.res hL' hR hxl
              repeat' first | refine Z1 rfl ?_ | ((with_reducible show VO _ _ _ _ _ _ _); first | refine Z0e rfl hg0 rfl ?_ | refine Ze rfl rfl (all_one4 rfl rfl rfl hone) rfl rfl (Z01 hg1 rfl) ?_ | refine Z0 rfl ?_ | refine Z2 ?_)
              refine Z3t (r := .tuple [.agg [.int .i64 5, .int .i64 0, .str [], q2], .int .i64 (n' : Nat), .int .i64 0]) rfl (Z7d rfl St.get_put rfl rfl rfl) (Zes (Z0m (view_agg (Z0m (.int _ _) (Z0m (.int _ _) (Z0m (.str _) (Z0m hvw2 Z5q))))) (Z0m (.int _ _) (Z0m (.int _ _) Z5q)))) ?_
              exact .inr ⟨.mk 5 0 [] l', n', _, by rw [hr, ht]; rfl, hq2.vc hI (by simp [I64]) (by simp), rfl⟩
            · refine Z3t (r := .tuple [.agg [.int .i64 0, .int .i64 0, .str [], .nilSl], .int .i64 0, .int .i64 err]) rfl (Z7d rfl hg rfl rfl rfl) (Pl.view (by (repeat' (first | exact Pl.int _ _ | exact Pl.bool _ | exact Pl.str _ | exact Pl.nilSl | exact Z2u | refine Z0b ?_ ?_ | refine Pl.tuple _ ?_ | refine Pl.agg _ ?_ | refine Pl.func _ _ ?_ | assumption | refine Pl.iptr _ _ ?_ | exact Z5y | refine Z3i ?_ ?_ | refine Pl.sl _ _ ?_)); first | done | fail)) ?_
              exact .inl ⟨err, by rw [hr, ht], rfl⟩
        obtain ⟨r, h1, ⟨e, h2, rfl⟩ | ⟨v, m, cs, h2, h3, rfl⟩⟩ := key
        · exact .inl ⟨e, h2, h1⟩
        · exact .inr ⟨v, m, cs, h2, h3, h1⟩
set_option maxHeartbeats 8000000 in
theorem read_step (f : Nat) (d : Int) (hd : d + f = 9 ∧ 1 ≤ d) (rd : List UInt8 → TR) (hle : RdLe rd) (hrd : f ≠ 0 → ∀ (q : PV) (b : List UInt8), BV q b → b.length ≤ 1073741824 → RdOk Z4o [q, .int .i64 (d + 1)] (rd b))
    (t : List UInt8 → TR) (ht0 : t [] = .err 11) (htf : f = 0 → ∀ c r, t (c :: r) = .err 30)
    (hts : f ≠ 0 → ∀ c r, t (c :: r) = if c.toNat < 1 ∨ 7 < c.toNat then .err 30 else if c.toNat = 3 then (match r with
      | [] => .err 11
      | d :: _ => .ok (.mk 3 d.toNat [] []) 2)
    else match Zcu 10 0 r with
      | .ends => .err 11
      | .form => .err 30
      | .ok u n => Z5v rd c.toNat u (r.drop n) (n + 1))
    (p : PV) (b : List UInt8) (hp : BV p b) (hb : b.length ≤ 1073741824) : RdOk Z4o [p, .int .i64 d] (t b) := by
  have plp := hp.pl
  cases b with
  | nil =>
    rw [ht0]
    refine .inl ⟨11, rfl, ?_⟩
    refine Zd rfl rfl ?_
    repeat' first | ((with_reducible show V _ _ _ _ _ _); first | refine Z1 rfl ?_ | refine Za rfl rfl ?_ | refine Zc rfl rfl ?_) | ((with_reducible show VO _ _ _ _ _ _ _); first | refine Z0a rfl hp ?_ | refine Z7 rfl rfl (Z0v _) ?_ | refine Z0 rfl ?_ | refine Z8 rfl ?_ | refine Z2 ?_)
    rfl
  | cons c r =>
    have hc := c.toNat_lt
    have hl0 : ¬ (((c :: r).length : Int) = 0) := by simp; omega
    have hat := hp.at (n := 0) (b := c) (by omega) rfl
    have hcv : PV.int .i64 (IntKind.i64.wrap (c.toNat : Int)) = PV.int .i64 (c.toNat : Int) := Z1u (by rw [Z03]; omega)
    by_cases hk1 : c.toNat < 1
    · have hk1' : (c.toNat : Int) < 1 := by omega
      have htt : t (c :: r) = .err 30 := by
        by_cases h0 : f = 0
        · exact htf h0 c r
        · rw [hts h0, if_pos (.inl hk1)]
      rw [htt]
      refine .inl ⟨30, rfl, ?_⟩
      refine Zd rfl rfl ?_
      repeat' first | ((with_reducible show V _ _ _ _ _ _); first | refine Z1 rfl ?_ | refine Za rfl rfl ?_ | refine Zb rfl rfl ?_ | refine Zc rfl rfl ?_) | ((with_reducible show VO _ _ _ _ _ _ _); first | refine Z0a rfl hp ?_ | refine Z4 (Zh hl0) rfl ?_ | refine Zq rfl rfl hat ?_ | refine Z4 hcv rfl ?_ | refine Z4 (Zs hk1') rfl ?_ | refine Z7 rfl rfl (Z0v _) ?_ | refine Z0 rfl ?_ | refine Z8 rfl ?_ | refine Z2 ?_ | refine Z0s rfl rfl ?_)
      rfl
    · have hk1' : ¬ (c.toNat : Int) < 1 := by omega
      by_cases hk7 : 7 < c.toNat
      · have hk7' : (7 : Int) < (c.toNat : Int) := by omega
        have htt : t (c :: r) = .err 30 := by
          by_cases h0 : f = 0
          · exact htf h0 c r
          · rw [hts h0, if_pos (.inr hk7)]
        rw [htt]
        refine .inl ⟨30, rfl, ?_⟩
        refine Zd rfl rfl ?_
        repeat' first | ((with_reducible show V _ _ _ _ _ _); first | refine Z1 rfl ?_ | refine Za rfl rfl ?_ | refine Zb rfl rfl ?_ | refine Zc rfl rfl ?_) | ((with_reducible show VO _ _ _ _ _ _ _); first | refine Z0a rfl hp ?_ | refine Z4 (Zh hl0) rfl ?_ | refine Zq rfl rfl hat ?_ | refine Z4 hcv rfl ?_ | refine Z4 (Zh hk1') rfl ?_ | refine Z4 (Zs hk7') rfl ?_ | refine Z7 rfl rfl (Z0v _) ?_ | refine Z0 rfl ?_ | refine Z8 rfl ?_ | refine Z2 ?_ | refine Zf rfl ?_ | refine Z0s rfl rfl ?_)
        rfl
      · have hk7' : ¬ (7 : Int) < (c.toNat : Int) := by omega
        by_cases hf0 : f = 0
        · have hd8 : (8 : Int) < d := by omega
          rw [htf hf0]
          refine .inl ⟨30, rfl, ?_⟩
          refine Zd rfl rfl ?_
          repeat' first | ((with_reducible show V _ _ _ _ _ _); first | refine Z1 rfl ?_ | refine Za rfl rfl ?_ | refine Zb rfl rfl ?_ | refine Zc rfl rfl ?_) | ((with_reducible show VO _ _ _ _ _ _ _); first | refine Z0a rfl hp ?_ | refine Z4 (Zh hl0) rfl ?_ | refine Zq rfl rfl hat ?_ | refine Z4 hcv rfl ?_ | refine Z4 (Zh hk1') rfl ?_ | refine Z4 (Zh hk7') rfl ?_ | refine Z4 (Zs hd8) rfl ?_ | refine Z7 rfl rfl (Z0v _) ?_ | refine Z0 rfl ?_ | refine Z8 rfl ?_ | refine Z2 ?_ | refine Zf rfl ?_)
          rfl
        · have hd8 : ¬ (8 : Int) < d := by omega
          have htc := hts hf0 c r
          rw [if_neg (by omega)] at htc
          by_cases h3 : c.toNat = 3
          · have h3' : (c.toNat : Int) = 3 := by omega
            rw [if_pos h3] at htc
            cases r with
            | nil =>
              rw [htc]
              have h2' : (([c] : List UInt8).length : Int) < 2 := by simp
              refine .inl ⟨11, rfl, ?_⟩
              refine Zd rfl rfl ?_
              repeat' first | ((with_reducible show V _ _ _ _ _ _); first | refine Z1 rfl ?_ | refine Za rfl rfl ?_ | refine Zb rfl rfl ?_ | refine Zc rfl rfl ?_) | ((with_reducible show VO _ _ _ _ _ _ _); first | refine Z0a rfl hp ?_ | refine Z4 (Zh hl0) rfl ?_ | refine Zq rfl rfl hat ?_ | refine Z4 hcv rfl ?_ | refine Z4 (Zh hk1') rfl ?_ | refine Z4 (Zh hk7') rfl ?_ | refine Z4 (Zh hd8) rfl ?_ | refine Z4 (Zs h3') rfl ?_ | refine Z4 (Zs h2') rfl ?_ | refine Z7 rfl rfl (Z0v _) ?_ | refine Z0 rfl ?_ | refine Z8 rfl ?_ | refine Z2 ?_ | refine Zf rfl ?_)
              rfl
            | cons e r =>
              rw [htc]
              have h2' : ¬ (((c :: e :: r : List UInt8).length : Int) < 2) := by simp; omega
              have he := e.toNat_lt
              have hat1 := hp.at (n := 1) (b := e) (by omega) rfl
              have hev : PV.int .i64 (IntKind.i64.wrap (e.toNat : Int)) = PV.int .i64 (e.toNat : Int) := Z1u (by rw [Z03]; omega)
              refine .inr ⟨.mk 3 e.toNat [] [], 2, _, rfl, .nil _ _ _ (by simp [I64]) (by unfold I64; omega) (by simp), ?_⟩
              rw [h3] at hat hcv hk1' hk7' h3'
              refine Zd rfl rfl ?_
              repeat' first | ((with_reducible show V _ _ _ _ _ _); first | refine Z1 rfl ?_ | refine Za rfl rfl ?_ | refine Zb rfl rfl ?_ | refine Zc rfl rfl ?_) | ((with_reducible show VO _ _ _ _ _ _ _); first | refine Z0a rfl hp ?_ | refine Z4 (Zh hl0) rfl ?_ | refine Zq rfl rfl hat ?_ | refine Zq rfl rfl hat1 ?_ | refine Z4 hcv rfl ?_ | refine Z4 hev rfl ?_ | refine Z4 (Zh hd8) rfl ?_ | refine Z4 (Zs h3') rfl ?_ | refine Z0 rfl ?_ | refine Z8 rfl ?_ | refine Z2 ?_ | refine Zf rfl ?_)
              rfl
          · have h3' : ¬ (c.toNat : Int) = 3 := by omega
            rw [if_neg h3] at htc
            let S : St := (emptySt.new (.var [.int .i64 0, .int .i64 0, .str [], .nilSl])).new (.var [.int .i64 (c.toNat : Int), .int .i64 0, .str [], .nilSl])
            obtain ⟨v1, hv1, hb1⟩ := hp.lo S.get (k := .i64) (m := 1) (by omega) (by simp; omega)
            have hd1 : (c :: r).drop (1 : Int).toNat = r := rfl
            rw [hd1] at hb1
            have pl1 := hb1.pl
            have htk := run_NTake hb1
            cases hdn : Zcu 10 0 r with
            | ends =>
              rw [hdn] at htc htk
              rw [htc]
              have htk' : T.R (.call Zam [v1] (.tuple [.int .u64 0, .int .i64 0, .int .i64 11])) := htk
              refine .inl ⟨11, rfl, ?_⟩
              refine Zd rfl rfl ?_
              repeat' first | ((with_reducible show V _ _ _ _ _ _); first | refine Z1 rfl ?_ | refine Za rfl rfl ?_ | refine Zb rfl rfl ?_ | refine Zc rfl rfl ?_) | ((with_reducible show VO _ _ _ _ _ _ _); first | refine Z0a rfl hp ?_ | refine Z4 (Zh hl0) rfl ?_ | refine Zq rfl rfl hat ?_ | refine Z4 hcv rfl ?_ | refine Z4 (Zh hk1') rfl ?_ | refine Z4 (Zh hk7') rfl ?_ | refine Z4 (Zh hd8) rfl ?_ | refine Z4 (Zh h3') rfl ?_ | refine Z16 v1 rfl rfl rfl rfl hv1 ?_ | refine Z7 rfl rfl htk' ?_ | refine Z7 rfl rfl (Z0v _) ?_ | refine Z0 rfl ?_ | refine Z8 rfl ?_ | refine Z2 ?_ | refine Zf rfl ?_)
              rfl
            | form =>
              rw [hdn] at htc htk
              rw [htc]
              have htk' : T.R (.call Zam [v1] (.tuple [.int .u64 0, .int .i64 0, .int .i64 12])) := htk
              refine .inl ⟨30, rfl, ?_⟩
              refine Zd rfl rfl ?_
              repeat' first | ((with_reducible show V _ _ _ _ _ _); first | refine Z1 rfl ?_ | refine Za rfl rfl ?_ | refine Zb rfl rfl ?_ | refine Zc rfl rfl ?_) | ((with_reducible show VO _ _ _ _ _ _ _); first | refine Z0a rfl hp ?_ | refine Z4 (Zh hl0) rfl ?_ | refine Zq rfl rfl hat ?_ | refine Z4 hcv rfl ?_ | refine Z4 (Zh hk1') rfl ?_ | refine Z4 (Zh hk7') rfl ?_ | refine Z4 (Zh hd8) rfl ?_ | refine Z4 (Zh h3') rfl ?_ | refine Z16 v1 rfl rfl rfl rfl hv1 ?_ | refine Z7 rfl rfl htk' ?_ | refine Z7 rfl rfl (Z0v _) ?_ | refine Z0 rfl ?_ | refine Z8 rfl ?_ | refine Z2 ?_ | refine Zf rfl ?_)
              rfl
            | ok u n =>
              rw [hdn] at htc htk
              have hnl := decN_le _ _ _ _ _ hdn
              have hu := decN_u64 hdn
              have htk' : T.R (.call Zam [v1] (.tuple [.int .u64 u, .int .i64 n, .int .i64 0])) := htk
              have hn1 : PV.int .i64 (IntKind.i64.wrap ((n : Int) + 1)) = PV.int .i64 ((n + 1 : Nat) : Int) := Z1u (by rw [Z03]; simp at hb; omega)
              have hrest := run_rest (c.toNat : Int) d (by omega) u hu (n + 1) p (c :: r) hp hb (by simp; omega) rd hle (hrd hf0) c.toNat rfl (by omega)
              have hdr : (c :: r).drop (n + 1) = r.drop n := rfl
              have htc' : t (c :: r) = Z5v rd c.toNat u (r.drop n) (n + 1) := htc
              rw [hdr, ← htc'] at hrest
              rcases hrest with ⟨e, he, hcall⟩ | ⟨w, m, cs, hw, hvc, hcall⟩
              · refine .inl ⟨e, he, ?_⟩
                refine Zd rfl rfl ?_
                repeat' first | ((with_reducible show V _ _ _ _ _ _); first | refine Z1 rfl ?_ | refine Zb rfl rfl ?_ | refine Zc rfl rfl ?_) | ((with_reducible show VO _ _ _ _ _ _ _); first | refine Z0a rfl hp ?_ | refine Z4 (Zh hl0) rfl ?_ | refine Zq rfl rfl hat ?_ | refine Z4 hcv rfl ?_ | refine Z4 (Zh hk1') rfl ?_ | refine Z4 (Zh hk7') rfl ?_ | refine Z4 (Zh hd8) rfl ?_ | refine Z4 (Zh h3') rfl ?_ | refine Z16 v1 rfl rfl rfl rfl hv1 ?_ | refine Z7 rfl rfl htk' ?_ | refine Z4 hn1 rfl ?_ | refine Z7 rfl rfl hcall ?_ | refine Z0 rfl ?_ | refine Z8 rfl ?_ | refine Z2 ?_ | refine Zf rfl ?_)
                rfl
              · refine .inr ⟨w, m, cs, hw, hvc, ?_⟩
                have plc := hvc.pl
                obtain ⟨wk, wn, ws, wl⟩ := w
                obtain ⟨q1, q2, q3, q, rfl, hq⟩ := hvc.open
                have plq := hq.pl
                have oq := hvc.one
                have hst : storeAt S (.ptr 0 0) (.agg [.int .i64 wk, .int .i64 wn, .str ws, q]) = some (S.put 0 (.var [.int .i64 wk, .int .i64 wn, .str ws, q])) := Z01 rfl rfl
                refine Zd rfl rfl ?_
                repeat' first | ((with_reducible show V _ _ _ _ _ _); first | refine Z1 rfl ?_ | refine Zb rfl rfl ?_ | refine Zc rfl rfl ?_) | ((with_reducible show VO _ _ _ _ _ _ _); first | refine Z0a rfl hp ?_ | refine Z4 (Zh hl0) rfl ?_ | refine Zq rfl rfl hat ?_ | refine Z4 hcv rfl ?_ | refine Z4 (Zh hk1') rfl ?_ | refine Z4 (Zh hk7') rfl ?_ | refine Z4 (Zh hd8) rfl ?_ | refine Z4 (Zh h3') rfl ?_ | refine Z16 v1 rfl rfl rfl rfl hv1 ?_ | refine Z7 rfl rfl htk' ?_ | refine Z4 hn1 rfl ?_ | refine Z7 rfl rfl hcall ?_ | refine Ze rfl rfl oq rfl rfl hst ?_ | refine Z0 rfl ?_ | refine Z8 rfl ?_ | refine Z2 ?_ | refine Zf rfl ?_)
                rfl
theorem run_read : ∀ (f : Nat) (d : Int), d + f = 9 ∧ 1 ≤ d → ∀ (p : PV) (b : List UInt8), BV p b → b.length ≤ 1073741824 → RdOk Z4o [p, .int .i64 d] (Zdj f b)
  | 0, d, hd, p, b, hp, hb => read_step 0 d hd (fun _ => .err 30) (fun b => ⟨fun e he => (by injection he with he; omega), fun v k hk => by cases hk⟩) (fun h => absurd rfl h) (Zdj 0) rfl (fun _ c r => rfl) (fun h => absurd rfl h) p b hp hb
  | f + 1, d, hd, p, b, hp, hb => read_step (f + 1) d hd (Zdj f) (readV_le f) (fun _ q b hq hb => run_read f (d + 1) (by omega) q b hq hb) (Zdj (f + 1)) rfl (fun h => by omega) (fun _ c r => rfl) p b hp hb
def readT (b : List UInt8) : TR := match Zdj 8 b with
  | .err e => .err e
  | .ok v n => made v n
set_option maxHeartbeats 4000000 in
theorem run_Read {p : PV} {b : List UInt8} (hp : BV p b) (hb : b.length ≤ 1073741824) : RdOk Zfv [p] (readT b) := by
  have plp := hp.pl
  unfold readT
  rcases run_read 8 1 (by omega) p b hp hb with ⟨e, he, hcall⟩ | ⟨w, m, cs, hw, hvc, hcall⟩
  · have hne := (readV_le 8 b).1 e he
    rw [he]
    refine .inl ⟨e, rfl, ?_⟩
    refine Zd rfl rfl ?_
    repeat' first | ((with_reducible show V _ _ _ _ _ _); first | refine Z1 rfl ?_ | refine Za rfl rfl ?_ | refine Zc rfl rfl ?_) | ((with_reducible show VO _ _ _ _ _ _ _); first | refine Z7 rfl rfl hcall ?_ | refine Z4 (Zal hne) rfl ?_ | refine Z7 rfl rfl (Z0v _) ?_ | refine Z0 rfl ?_ | refine Z8 rfl ?_ | refine Z2 ?_)
    rfl
  · rw [hw]
    have plc := hvc.pl
    have hmade := run_madeG hvc m
    obtain ⟨wk, wn, ws, wl⟩ := w
    obtain ⟨q1, q2, q3, q, rfl, hq⟩ := hvc.open
    have plq := hq.pl
    have oq := hvc.one
    let S : St := (emptySt.new (.var [.int .i64 0, .int .i64 0, .str [], .nilSl])).new (.var [.int .i64 0, .int .i64 0, .str [], .nilSl])
    have hst : storeAt S (.ptr 1 0) (.agg [.int .i64 wk, .int .i64 wn, .str ws, q]) = some (S.put 1 (.var [.int .i64 wk, .int .i64 wn, .str ws, q])) := Z01 rfl rfl
    have hg1 : (S.put 1 (.var [.int .i64 wk, .int .i64 wn, .str ws, q])).get 1 = some (.var [.int .i64 wk, .int .i64 wn, .str ws, q]) := St.get_put
    have hg0 : (S.put 1 (.var [.int .i64 wk, .int .i64 wn, .str ws, q])).get 0 = some (.var [.int .i64 0, .int .i64 0, .str [], .nilSl]) := rfl
    rcases hmade with ⟨e, he, hmc⟩ | ⟨w', m', cs', hw', hvc', hmc⟩
    · refine .inl ⟨e, he, ?_⟩
      refine Zd rfl rfl ?_
      repeat' first | ((with_reducible show V _ _ _ _ _ _); first | refine Z1 rfl ?_ | refine Zb rfl rfl ?_ | refine Zc rfl rfl ?_) | ((with_reducible show VO _ _ _ _ _ _ _); first | refine Z7 rfl rfl hcall ?_ | refine Z7 rfl rfl hmc ?_ | refine Ze rfl rfl oq rfl rfl hst ?_ | refine Z0e rfl hg1 rfl ?_ | refine Ze rfl rfl rfl rfl rfl (Z01 hg0 rfl) ?_ | refine Z0 rfl ?_ | refine Z8 rfl ?_ | refine Z2 ?_)
      rfl
    · refine .inr ⟨w', m', cs', hw', hvc', ?_⟩
      obtain ⟨wk', wn', ws', wl'⟩ := w'
      obtain ⟨r1, r2, r3, q', rfl, hq'⟩ := hvc'.open
      have plq' := hq'.pl
      have oq' := hvc'.one
      refine Zd rfl rfl ?_
      repeat' first | ((with_reducible show V _ _ _ _ _ _); first | refine Z1 rfl ?_ | refine Zb rfl rfl ?_ | refine Zc rfl rfl ?_) | ((with_reducible show VO _ _ _ _ _ _ _); first | refine Z7 rfl rfl hcall ?_ | refine Z7 rfl rfl hmc ?_ | refine Ze rfl rfl oq rfl rfl hst ?_ | refine Z0e rfl hg1 rfl ?_ | refine Ze rfl rfl oq' rfl rfl (Z01 hg0 rfl) ?_ | refine Z0 rfl ?_ | refine Z8 rfl ?_ | refine Z2 ?_)
      rfl
end Go.Proofs.YtgdjnlopdpjnaaaGreatDoor

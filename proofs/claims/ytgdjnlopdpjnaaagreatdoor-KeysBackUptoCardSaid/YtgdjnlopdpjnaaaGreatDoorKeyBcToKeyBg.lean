/- keys: the loop that reads properties. · keys.ParseV, ParseE: what was put is read. · keys.ParseE: what was put is read. · Keys: what entries name (plain). · ramblelaw11.named; rambleref10: SameProps, SameVertex, SameLink. -/
import Derived.Test.YtgdjnlopdpjnaaaGreatDoorKeyQToKeyBb
set_option linter.unusedVariables false
set_option linter.unusedSimpArgs false
namespace Go.Proofs.YtgdjnlopdpjnaaaGreatDoor
open Go Go.AM Go.RowKit
def z5 : List PV := [.str [], .int .i64 0, .int .i64 0, .str [], .nilSl]
def Kept (S : St) (t : Nat) (st : St) : Prop := st.base = S.next ∧ S.next ≤ st.next ∧ ∀ u, u < S.next → u ≠ t → st.get u = S.get u
theorem Kept.mut {S st st' : St} {t : Nat} (h : Kept S t st) (m : Mut st st' t) : Kept S t st' :=
  ⟨m.1.trans h.1, Nat.le_trans h.2.1 m.2.1, fun u hu hn => (m.2.2 u (by have := h.2.1; omega) hn).trans (h.2.2 u hu hn)⟩
theorem Kept.new {S st : St} {t : Nat} (h : Kept S t st) (k : Tok) : Kept S t (st.new k) :=
  ⟨h.1, by have := h.2.1; simp [St.new]; omega, fun u hu hn => (St.get_new_old (by have := h.2.1; omega)).trans (h.2.2 u hu hn)⟩
theorem Kept.put {S st : St} {t v : Nat} (h : Kept S t st) (hv : S.next ≤ v) (k : Tok) : Kept S t (st.put v k) :=
  ⟨h.1, h.2.1, fun u hu hn => (St.get_put_old (by omega)).trans (h.2.2 u hu hn)⟩
theorem Kept.grow {S st st' : St} {t : Nat} {v v' : PV} (h : Kept S t st) (g : Grow st v st' v') (hv : ∀ m, Z0q v = some m → S.next ≤ m) : Kept S t st' ∧ ∀ m, Z0q v' = some m → S.next ≤ m := by
  refine ⟨⟨g.1.trans h.1, Nat.le_trans h.2.1 g.2.1, fun u hu hn => (g.2.2.2 u (by have := h.2.1; omega) (fun e => by have := hv u e; omega)).trans (h.2.2 u hu hn)⟩, fun m hm => ?_⟩
  rcases g.2.2.1 with e | ⟨n, e, hn⟩
  · exact hv m (by rw [← e]; exact hm)
  · rw [hm] at e
    injection e with e
    have := h.2.1
    omega
set_option maxHeartbeats 8000000 in
theorem rdp_loop {S : St} {t : Nat} (htS : t < S.next) {l : List Prp} (hok : okP none l = true) (hvc : ∀ x ∈ l, x.name.length ≤ 140737488355328 ∧ ∃ cs, VC x.val cs) (h16 : l.length ≤ 16) {x : List UInt8} : ∀ (rest pre : List Prp) (st : St) (v : PV), l = pre ++ rest → Kept S t st → RdR st t (rest.flatMap Z4x ++ x, false) → PA st v pre → (∀ m, Z0q v = some m → S.next ≤ m) →
    V T (PE fun y e st' => y = .exit 0 ∧ ∃ v', e = Zbe [(3, v')] ∧ Kept S t st' ∧ RdR st' t (x, false) ∧ PA st' v' l) [.code (.loop Z3z)] .normal (Zbe [(0, .ptr t 0), (3, v), (4, .int .i64 rest.length)]) st := by
  intro rest
  induction rest with
  | nil =>
    intro pre st v hl hk hr hA hv
    have hd := Zh (p := ((([] : List Prp).length : Nat) : Int) > 0) (by simp)
    have e : pre = l := by simpa using hl.symm
    subst e
    refine Zi ?_
    repeat' first | ((with_reducible show V _ _ _ _ _ _); first | refine Zbf [(3, v)] rfl ⟨rfl, trivial⟩ ⟨rfl, v, rfl, hk, by simpa using hr, hA⟩ | refine Z1 rfl ?_ | refine Zb rfl rfl ?_) | ((with_reducible show VO _ _ _ _ _ _ _); first | refine Z4 hd rfl ?_ | refine Z0 rfl ?_ | refine Z2 ?_ | refine Z0s rfl rfl ?_)
  | cons y rest ih =>
    intro pre st v hl hk hr hA hv
    have hd := Zs (p := (((y :: rest).length : Nat) : Int) > 0) (by simp)
    have hpl : pre.length < 16 := by have := congrArg List.length hl; simp at this; omega
    obtain ⟨hnm, hch, hup⟩ := okP_split pre none y rest (hl ▸ hok)
    have hmay := chk_may hch
    obtain ⟨hnl, cs0, hvv⟩ := hvc y (by rw [hl]; simp)
    obtain ⟨_, hbl0, p0, hg0, hp0⟩ := id hr
    simp only at hbl0 hg0 hp0
    have hr1 : RdR st t (Z1l y.name ++ (Z8t y.val ++ (rest.flatMap Z4x ++ x)), false) := by
      have e : (y :: rest).flatMap Z4x ++ x = Z1l y.name ++ (Z8t y.val ++ (rest.flatMap Z4x ++ x)) := by simp [Z4x]
      rw [← e]
      exact hr
    obtain ⟨A1, a1, a2, a3⟩ := text1 hr1 hnm
    have hk1 := hk.mut a3
    have hne : ∀ u g es, st.get u = some (.row g 5 es true) → u ≠ t := fun u g es h e => by rw [e, hg0] at h; cases h
    have hA1 : PA A1 v pre := hA.keep a3.2.1 (fun u g es hu h => a3.2.2 u hu (hne u g es h))
    have hN1 := hk1.2.1
    have ht1 := a2.1
    generalize hA2 : (A1.new (.var z5)).put A1.next (.var [.str y.name, .int .i64 0, .int .i64 0, .str [], .nilSl]) = A2
    have st2 : storeAt (A1.new (.var z5)) (.ptr A1.next 0) (.agg [.str y.name, .int .i64 0, .int .i64 0, .str [], .nilSl]) = some A2 := by rw [← hA2]; exact Z01 St.get_new rfl
    have w2 : A2.get A1.next = some (.var [.str y.name, .int .i64 0, .int .i64 0, .str [], .nilSl]) := by rw [← hA2]; exact St.get_put
    have o2 : ∀ u, u < A1.next → A2.get u = A1.get u := fun u hu => by rw [← hA2]; exact var_put.2.1 u hu
    have n2 : A2.next = A1.next + 1 := by rw [← hA2]; rfl
    have hk2 : Kept S t A2 := by rw [← hA2]; exact (hk1.new _).put hN1 _
    have hr2 : RdR A2 t (Z8t y.val ++ (rest.flatMap Z4x ++ x), false) := a2.keep (by omega) (o2 t ht1)
    have hPA2 : PA A2 v pre := hA1.keep (by omega) (fun u g es hu h => o2 u hu)
    obtain ⟨_, hbl, p, hg, hp⟩ := id hr2
    simp only at hbl hg hp
    have hpp := hp.pl
    obtain ⟨ds, hdv, hrd⟩ := read_was hvv hmay hp hbl
    have hd4 := hdv.len4
    have hdp := hdv.pl
    have hdo := hdv.one
    generalize hA3 : (A2.new (.var [.int .i64 0, .int .i64 0, .str [], .nilSl])).put A2.next (.var ds) = A3
    have st3 : storeAt (A2.new (.var [.int .i64 0, .int .i64 0, .str [], .nilSl])) (.ptr A2.next 0) (.agg ds) = some A3 := by rw [← hA3]; exact Z01 St.get_new (by rw [hd4]; rfl)
    have w3 : A3.get A2.next = some (.var ds) := by rw [← hA3]; exact St.get_put
    have o3 : ∀ u, u < A2.next → A3.get u = A2.get u := fun u hu => by rw [← hA3]; exact var_put.2.1 u hu
    have n3 : A3.next = A2.next + 1 := by rw [← hA3]; rfl
    have hk3 : Kept S t A3 := by rw [← hA3]; exact (hk2.new _).put (by omega) _
    have hr3 : RdR A3 t (Z8t y.val ++ (rest.flatMap Z4x ++ x), false) := hr2.keep (by omega) (o3 t (by omega))
    have hPA3 : PA A3 v pre := hPA2.keep (by omega) (fun u g es hu h => o3 u hu)
    have w32 : A3.get A1.next = some (.var [.str y.name, .int .i64 0, .int .i64 0, .str [], .nilSl]) := (o3 _ (by omega)).trans w2
    have hpml : (Z8t y.val).length ≤ 1073741824 := by rw [List.length_append] at hbl; omega
    obtain ⟨A4, b1, b2, b3⟩ := skip1 hr3 (n := (Z8t y.val).length) (by omega) true
    have hsk : Z1i (Z8t y.val ++ (rest.flatMap Z4x ++ x), false) (Z8t y.val).length true = ((rest.flatMap Z4x ++ x, false), true) := by
      unfold Z1i
      rw [if_neg (by simp)]
      simp
    rw [hsk] at b1 b2
    have hk4 := hk3.mut b3
    have hg3 : A3.get t = some (.var [p, .bool false]) := (o3 t (by omega)).trans hg
    have hne3 : ∀ u g es, A3.get u = some (.row g 5 es true) → u ≠ t := fun u g es h e => by rw [e, hg3] at h; cases h
    have hPA4 : PA A4 v pre := hPA3.keep b3.2.1 (fun u g es hu h => b3.2.2 u hu (hne3 u g es h))
    have w42 : A4.get A1.next = some (.var [.str y.name, .int .i64 0, .int .i64 0, .str [], .nilSl]) := (b3.2.2 _ (by omega) (by omega)).trans w32
    have w43 : A4.get A2.next = some (.var ds) := (b3.2.2 _ (by omega) (by omega)).trans w3
    have st5 := storeAt_fld hd4 w42
    generalize hA5 : A4.put A1.next (.var (.str y.name :: ds)) = A5 at st5
    have w5 : A5.get A1.next = some (.var (.str y.name :: ds)) := by rw [← hA5]; exact St.get_put
    have o5 : ∀ u, u ≠ A1.next → A5.get u = A4.get u := fun u hu => by rw [← hA5]; exact St.get_put_old (Ne.symm hu)
    have n5 : A5.next = A4.next := by rw [← hA5]; rfl
    have hk5 : Kept S t A5 := by rw [← hA5]; exact hk4.put hN1 _
    have hne4 : ∀ u g es, A4.get u = some (.row g 5 es true) → u ≠ A1.next := fun u g es h e => by rw [e, w42] at h; cases h
    have hPA5 : PA A5 v pre := hPA4.keep (by omega) (fun u g es hu h => o5 u (hne4 u g es h))
    have hr5 : RdR A5 t (rest.flatMap Z4x ++ x, false) := b2.keep (by omega) (o5 t (by omega))
    obtain ⟨v6, A6, d1, d2, d3⟩ := hPA5.app (x := y) (cs := .str y.name :: ds) ⟨hnl, ds, rfl, hdv⟩ (by omega)
    obtain ⟨hk6, hv6⟩ := hk5.grow d3 hv
    have hr6 : RdR A6 t (rest.flatMap Z4x ++ x, false) := hr5.keep d3.2.1 (d3.2.2.2 t hr5.1 (fun e => by have := hv t e; omega))
    have hi := ih (pre ++ [y]) A6 v6 (by rw [hl]; simp) hk6 hr6 d2 hv6
    have hw : IntKind.i64.wrap (((y :: rest).length : Int) - 1) = (rest.length : Int) := by have := congrArg List.length hl; simp at this; rw [Z03]; simp; omega
    have hb5 := build5 (s := y.name) hdv
    have hl5 : (PV.str y.name :: ds).length = 5 := by simp [hd4]
    have hok5 : okEls 5 [PV.str y.name :: ds] = true := by
      simp only [okEls, List.all_cons, List.all_nil, hl5, hdo]
      rfl
    obtain ⟨f1, f2⟩ := hPA3.len
    refine Zi ?_
    by_cases hpre : pre = []
    · subst hpre
      have hd0 := Zs (p := ((([] : List Prp).length : Nat) : Int) = 0) rfl
      repeat' first | ((with_reducible show V _ _ _ _ _ _); first | refine V_C (mkC [21] [some 55] A3 [A4] none) rfl rfl ?_ | refine V_re rfl hi ⟨rfl, rfl, Z2n hw, trivial⟩ | refine Z1 rfl ?_ | refine Za rfl rfl ?_ | refine Zb rfl rfl ?_) | ((with_reducible show VO _ _ _ _ _ _ _); first | refine Z4 hd rfl ?_ | refine Zr rfl hg0 rfl ?_ | refine Z0i a1 rfl rfl ?_ | refine Ze rfl rfl rfl rfl rfl st2 ?_ | refine Zr rfl hg rfl ?_ | refine Z7 rfl rfl hrd ?_ | refine Ze rfl rfl hdo hd4 rfl st3 ?_ | refine Z0e rfl w43 hd4 ?_ | refine Ze rfl rfl hdo hd4 rfl st5 ?_ | refine Z0e rfl w5 hl5 ?_ | refine Z0 (hb5 _ _ rfl) ?_ | refine Z04 rfl rfl rfl hok5 (by decide) (by decide) d1 ?_ | refine Z0 rfl ?_ | refine Z8 rfl ?_ | refine Z2 ?_ | refine Zf rfl ?_) | ((with_reducible show Go.AM.VC _ _ _ _ _ _ _ _ _ _); first | refine Z5f rfl rfl (fun _ => len_step f1 f2 _ _ rfl) ?_ | refine C_gT rfl rfl rfl ?_ | refine C_gF rfl rfl rfl rfl ?_ | refine C_is hd0 rfl rfl (fun _ => rfl) ?_ | refine C_raw1 rfl rfl rfl rfl rfl rfl rfl rfl b1 rfl ?_ | refine Z5f rfl rfl (fun _ => rfl) ?_ | refine C_nil rfl rfl ?_)
    · obtain ⟨pre0, z, hpz⟩ : ∃ pre0 z, pre = pre0 ++ [z] := ⟨pre.dropLast, pre.getLast hpre, (List.dropLast_concat_getLast hpre).symm⟩
      subst hpz
      have hlast := hup z (by simp)
      have hd0 := Zh (p := (((pre0 ++ [z]).length : Nat) : Int) = 0) (by rw [List.length_append, List.length_singleton]; omega)
      have hw1 : PV.int .i64 (IntKind.i64.wrap (((pre0 ++ [z]).length : Int) - 1)) = PV.int .i64 (pre0.length : Nat) := Z1u (by rw [Z03]; simp at hpl ⊢; omega)
      have hls : PV.bool (bytesLess z.name y.name) = .bool true := by rw [hlast]
      obtain ⟨es, hAes, hel, hes⟩ := id hPA3
      rcases hAes with ⟨rfl, rfl⟩ | ⟨tk, g, rfl, hrow, htk⟩
      · simp at hel
      · have hj : pre0.length < es.length := by rw [hel]; simp
        have hz := hes pre0.length z es[pre0.length] (by simp) (List.getElem?_eq_getElem hj)
        obtain ⟨_, vz, hez, _⟩ := hz
        have hej : es[pre0.length]? = some (.str z.name :: vz) := by rw [List.getElem?_eq_getElem hj, hez]
        have hrow4 : A4.get tk = some (.row g 5 es true) := (b3.2.2 tk htk (hne3 tk g es hrow)).trans hrow
        have hrall := Z1c (Q := fun s => s.get tk = some (.row g 5 es true)) (a := A3) (r := [A4]) ⟨hrow, hrow4⟩
        have hwall := Z1c (Q := fun s => s.get A1.next = some (.var [.str y.name, .int .i64 0, .int .i64 0, .str [], .nilSl])) (a := A3) (r := [A4]) ⟨w32, w42⟩
        repeat' first | ((with_reducible show V _ _ _ _ _ _); first | refine V_C (mkC [21] [some 55] A3 [A4] none) rfl rfl ?_ | refine V_re rfl hi ⟨rfl, rfl, Z2n hw, trivial⟩ | refine Z1 rfl ?_ | refine Za rfl rfl ?_ | refine Zb rfl rfl ?_) | ((with_reducible show VO _ _ _ _ _ _ _); first | refine Z4 hd rfl ?_ | refine Zr rfl hg0 rfl ?_ | refine Z0i a1 rfl rfl ?_ | refine Ze rfl rfl rfl rfl rfl st2 ?_ | refine Zr rfl hg rfl ?_ | refine Z7 rfl rfl hrd ?_ | refine Ze rfl rfl hdo hd4 rfl st3 ?_ | refine Z0e rfl w43 hd4 ?_ | refine Ze rfl rfl hdo hd4 rfl st5 ?_ | refine Z0e rfl w5 hl5 ?_ | refine Z0 (hb5 _ _ rfl) ?_ | refine Z04 rfl rfl rfl hok5 (by decide) (by decide) d1 ?_ | refine Z0 rfl ?_ | refine Z8 rfl ?_ | refine Z2 ?_ | refine Zf rfl ?_) | ((with_reducible show Go.AM.VC _ _ _ _ _ _ _ _ _ _); first | refine Z5f rfl rfl (fun _ => len_step f1 f2 _ _ rfl) ?_ | refine C_gT rfl rfl rfl ?_ | refine C_is hd0 rfl rfl (fun _ => rfl) ?_ | refine C_is hw1 rfl rfl (fun _ => rfl) ?_ | refine C_is hls rfl rfl (fun _ => rfl) ?_ | refine Zl1 rfl rfl (fun i => idx_own (hrall i) hj _ rfl rfl) ?_ | refine Zl1 rfl rfl (fun i => load_own (hrall i) hej _ rfl) ?_ | refine Z6p rfl rfl rfl hwall rfl ?_ | refine C_raw1 rfl rfl rfl rfl rfl rfl rfl rfl b1 rfl ?_ | refine Z5f rfl rfl (fun _ => rfl) ?_ | refine C_nil rfl rfl ?_)
theorem props1 {S : St} {t : Nat} {l : List Prp} {x : List UInt8} (hr : RdR S t (Z0y l ++ x, false)) (hok : Z27 l = true) (hvc : ∀ y ∈ l, y.name.length ≤ 140737488355328 ∧ ∃ cs, VC y.val cs) : ∃ v S', Raw1 T S Z6c [.ptr t 0] v S' ∧ RdR S' t (x, false) ∧ PA S' v l ∧ Mut S S' t := by
  simp only [Z27, Bool.and_eq_true, decide_eq_true_eq] at hok
  obtain ⟨h16, hok⟩ := hok
  have hr' : RdR (⟨S.next, S.next, S.toks⟩ : St) t (Zt l.length ++ (l.flatMap Z4x ++ x), false) := by
    have e : Z0y l ++ x = Zt l.length ++ (l.flatMap Z4x ++ x) := by simp [Z0y]
    rw [← e]
    exact hr.re _
  obtain ⟨A, a1, a2, a3⟩ := num1 hr' (lo := 0) (hi := 16) (by omega) (by omega)
  rw [Ze5 (by omega) (by omega) (by omega) (by omega)] at a1 a2
  have hkA : Kept S t A := ⟨a3.1, a3.2.1, fun u hu hn => a3.2.2 u hu hn⟩
  have hlp := rdp_loop hr.1 hok hvc h16 (x := x) l [] A .nilSl rfl hkA a2 ⟨[], .inl ⟨rfl, rfl⟩, rfl, fun j y cs h => by simp at h⟩ (fun m h => by cases h)
  have key : ∃ v st', T.R (.raw Z6c [.ptr t 0] ⟨S.next, S.next, S.toks⟩ v st') ∧ Kept S t st' ∧ RdR st' t (x, false) ∧ PA st' v l := by
    refine Z1f rfl rfl ?_
    repeat' first | refine Z8r rfl hlp ⟨rfl, rfl, rfl, trivial⟩ ?_ | refine Z1 rfl ?_ | ((with_reducible show VO _ _ _ _ _ _ _); first | refine Z0i a1 rfl rfl ?_ | refine Z0 rfl ?_ | refine Z2 ?_)
    rintro y e st' ⟨rfl, v', rfl, r1, r2, r3⟩
    repeat' first | refine Z08 rfl rfl ⟨r1, r2, r3⟩ | refine Z1 rfl ?_ | refine Z0 rfl ?_ | refine Z2 ?_
  obtain ⟨v, st', h1, h2, h3, h4⟩ := key
  exact ⟨v, _, Z9t h1 h2.1, h3, h4, rfl, h2.2.1, h2.2.2⟩
theorem PA.mut {st st' : St} {v : PV} {l : List Prp} {t : Nat} {c : List PV} (h : PA st v l) (m : Mut st st' t) (hg : st.get t = some (.var c)) : PA st' v l :=
  h.keep m.2.1 fun u g es hu hr => m.2.2 u hu (fun e => by rw [e, hg] at hr; cases hr)
theorem PA.put {st : St} {v : PV} {l : List Prp} {t : Nat} {c : List PV} (h : PA st v l) (k : Tok) (hg : st.get t = some (.var c)) : PA (st.put t k) v l :=
  h.keep (Nat.le_refl _) fun u g es hu hr => St.get_put_old (fun e => by rw [← e, hg] at hr; cases hr)
theorem PA.one {st : St} {v : PV} {l : List Prp} (h : PA st v l) : v.cells = [v] ∧ PV.one v = true := by
  obtain ⟨es, h1, _⟩ := h
  exact AccT.cells h1
theorem view_tup2 {live : Bool} {look : Nat → Option Tok} {a b a' b' : PV} (h1 : View live look a a') (h2 : View live look b b') : View live look (.tuple [a, b]) (.tuple [a', b']) :=
  .tuple _ _ rfl fun i c d hc hd => by
    match i with
    | 0 => simp at hc hd; subst hc hd; exact h1
    | 1 => simp at hc hd; subst hc hd; exact h2
    | i + 2 => simp at hc
theorem view_agg3 {live : Bool} {look : Nat → Option Tok} {a b c a' b' c' : PV} (h1 : View live look a a') (h2 : View live look b b') (h3 : View live look c c') : View live look (.agg [a, b, c]) (.agg [a', b', c']) :=
  .agg _ _ rfl fun i x y hx hy => by
    match i with
    | 0 => simp at hx hy; subst hx hy; exact h1
    | 1 => simp at hx hy; subst hx hy; exact h2
    | 2 => simp at hx hy; subst hx hy; exact h3
    | i + 3 => simp at hx
theorem view_agg5 {live : Bool} {look : Nat → Option Tok} {a b c d e a' b' c' d' e' : PV} (h1 : View live look a a') (h2 : View live look b b') (h3 : View live look c c') (h4 : View live look d d') (h5 : View live look e e') : View live look (.agg [a, b, c, d, e]) (.agg [a', b', c', d', e']) :=
  .agg _ _ rfl fun i x y hx hy => by
    match i with
    | 0 => simp at hx hy; subst hx hy; exact h1
    | 1 => simp at hx hy; subst hx hy; exact h2
    | 2 => simp at hx hy; subst hx hy; exact h3
    | 3 => simp at hx hy; subst hx hy; exact h4
    | 4 => simp at hx hy; subst hx hy; exact h5
    | i + 5 => simp at hx
theorem resG_cT {e : EC} {look : Nat → Option Tok} {t a b n : Nat} {cs : List PV} {x : PV} (ha : e.get a = some (.ptr t 0)) (hg : look t = some (.var cs)) (hl : cs.length = n) (hb : e.get b = some x) : resG e look [.cell a n true, .tmp b] = some (.tuple [.agg cs, x]) := by
  have hld : loadAt look n true (.ptr t 0) = some (.agg cs) := by
    simp only [loadAt, behind, hg, Option.bind_some]
    rw [← hl]
    simp [slice?]
  simp [resG, resGs, resG1, ha, hb, hld]
theorem Z5x {v : Val} (hm : Zg 8 v = true) (h4 : v.kind ≠ 4) (h5 : v.kind ≠ 5) (hi : I64 v.n) (x : List UInt8) : Z15 (kB v ++ x, false) v.kind = ((x, false), v) := by
  rw [kB_of hm h4 h5]
  have ht := take_key (v := v) ⟨hm, h4, h5⟩ hi x
  simp [Z15, ht]
theorem Z4h {st : St} {t off : Nat} {cs ds : List PV} {q : PV} (hg : st.get t = some (.var cs)) (hq : q.cells = [q]) (hl : off + 1 ≤ cs.length) (hd : cs.take off ++ q :: cs.drop (off + 1) = ds) : storeAt st (.ptr t off) q = some (st.put t (.var ds)) := by
  simp only [storeAt, hg, hq]
  rw [if_pos (by simpa using hl)]
  simp only [Z5t, List.length_singleton, ← hd]
  simp
set_option maxHeartbeats 8000000 in
theorem run_ParseV {x : Vtx} {pk pv : PV} (hk : BV pk (Z25 (Z4u x.id))) (hv : BV pv (Z1l x.label ++ Z0y x.props)) (hvl : (Z1l x.label ++ Z0y x.props).length ≤ 1073741824) (hok : Z99 x = true) (hvc : ∀ y ∈ x.props, y.name.length ≤ 140737488355328 ∧ ∃ cs, VC y.val cs) : ∃ q, T.R (.call n_keys_ParseV [.agg [pk, pv]] (.tuple [.agg [.int .i64 x.id, .str x.label, q], .int .i64 0])) ∧ LR PpC q x.props := by
  simp only [Z99, Bool.and_eq_true] at hok
  obtain ⟨⟨hid, hnm⟩, hpo⟩ := hok
  have hpk := hk.pl
  have hpv := hv.pl
  have ho1 := Z84 hk
  have ho2 := Z84 hv
  have hI := Zaq hid
  have hm := Zic hid
  have hek : Z25 (Z4u x.id) = 1 :: (kB (Z4u x.id) ++ []) := by
    simp only [Z25, hm, if_true, List.append_nil]
    rfl
  rw [hek] at hk
  have hkb := Z6j (Z4u x.id)
  obtain ⟨S0, hS0⟩ : ∃ S0 : St, S0 = (emptySt.new (.var [pk, pv])).new (.var zV) := ⟨_, rfl⟩
  have s0 : S0.get 0 = some (.var [pk, pv]) := by rw [hS0]; rfl
  have s1 : S0.get 1 = some (.var zV) := by rw [hS0]; rfl
  have sn : S0.next = 2 := by rw [hS0]; rfl
  obtain ⟨t, B, b1, b2, b3, b4, b5⟩ := open1 (S := S0) hk hv (by simp; omega) (kinds := [1]) (by simp)
  have hop : Zc6 (1 :: (kB (Z4u x.id) ++ [])) [1] = (kB (Z4u x.id) ++ [], false) := by simp [Zc6]
  rw [hop] at b3
  have hbd := Zhf hv
  have hcp : ∀ c ∈ [pv, PV.bool false], Pl c := Z0b hpv (Z0b (.bool _) Z2u)
  have B0 : B.get 0 = some (.var [pk, pv]) := (b5 0 (by omega)).trans s0
  have B1 : B.get 1 = some (.var zV) := (b5 1 (by omega)).trans s1
  have hD : ∀ (e : EC), e.get 13 = some (.ptr B.next 0) → e.get 5 = some (.ptr B.next 0) → ∀ u ∈ [13, 5], e.get u = some (.ptr B.next 0) := fun e h1 h2 u hu => by
    simp only [List.mem_cons, List.not_mem_nil, or_false] at hu
    rcases hu with rfl | rfl <;> assumption
  obtain ⟨S1, hS1⟩ : ∃ S1 : St, S1 = B.new (.var [pv, .bool false]) := ⟨_, rfl⟩
  have n1 : S1.next = B.next + 1 := by rw [hS1]; rfl
  have o1 : ∀ u, u < B.next → S1.get u = B.get u := fun u hu => by rw [hS1]; exact St.get_new_old hu
  have hx1 : RdR S1 B.next (Z1l x.label ++ (Z0y x.props ++ []), false) := ⟨by omega, by simpa using hvl, pv, by rw [hS1]; exact St.get_new, by simpa using hv⟩
  have htB := b3.1
  have ht1 : RdR S1 t (kB (Z4u x.id) ++ [], false) := b3.keep (by omega) (o1 t htB)
  have g1 : S1.get 1 = some (.var zV) := (o1 1 (by omega)).trans B1
  have htx : t ≠ B.next := by omega
  obtain ⟨S2, c1, c2, c3⟩ := key1 ht1 (kind := 6)
  have hrk := Z5x (v := Z4u x.id) hm (by simp [Z4u, Val.kind]) (by simp [Z4u, Val.kind]) hI []
  have hkk : (Z4u x.id).kind = 6 := rfl
  rw [hkk] at hrk
  rw [hrk] at c1 c2
  obtain ⟨S3, d1, d2, d3⟩ := text1 (hx1.apart c3 (Ne.symm htx)) hnm
  have ht3 := c2.apart d3 htx
  have g3 : S3.get 1 = some (.var zV) := d3.get (by have := c3.2.1; omega) (by omega) (c3.get (by omega) (by omega) g1)
  generalize hS4 : (S3.new (.var zV)).put S3.next (.var [.int .i64 x.id, .str x.label, .nilSl]) = S4
  have st4 : storeAt (S3.new (.var zV)) (.ptr S3.next 0) (.agg [.int .i64 x.id, .str x.label, .nilSl]) = some S4 := by rw [← hS4]; exact Z01 St.get_new rfl
  have w4 : S4.get S3.next = some (.var [.int .i64 x.id, .str x.label, .nilSl]) := by rw [← hS4]; exact St.get_put
  have o4 : ∀ u, u < S3.next → S4.get u = S3.get u := fun u hu => by rw [← hS4]; exact var_put.2.1 u hu
  have n4 : S4.next = S3.next + 1 := by rw [← hS4]; rfl
  have lt3 := d3.2.1
  have lt2 := c3.2.1
  have hx4 : RdR S4 B.next (Z0y x.props ++ [], false) := d2.keep (by omega) (o4 _ (by omega))
  have ht4 : RdR S4 t ([], false) := ht3.keep (by omega) (o4 _ (by omega))
  have g4 : S4.get 1 = some (.var zV) := (o4 1 (by omega)).trans g3
  obtain ⟨v, S5, e1, e2, e3, e4⟩ := props1 hx4 hpo hvc
  have lt5 := e4.2.1
  have w5 : S5.get S3.next = some (.var [.int .i64 x.id, .str x.label, .nilSl]) := e4.get (by omega) (by omega) w4
  have ht5 := ht4.apart e4 htx
  have g5 : S5.get 1 = some (.var zV) := e4.get (by omega) (by omega) g4
  obtain ⟨vc1, vc2⟩ := e3.one
  have st6 := Z4h (off := 2) (ds := [.int .i64 x.id, .str x.label, v]) w5 vc1 (by simp) rfl
  generalize hS6 : S5.put S3.next (.var [.int .i64 x.id, .str x.label, v]) = S6 at st6
  have w6 : S6.get S3.next = some (.var [.int .i64 x.id, .str x.label, v]) := by rw [← hS6]; exact St.get_put
  have o6 : ∀ u, u ≠ S3.next → S6.get u = S5.get u := fun u hu => by rw [← hS6]; exact St.get_put_old (Ne.symm hu)
  have n6 : S6.next = S5.next := by rw [← hS6]; rfl
  have hP6 : PA S6 v x.props := by rw [← hS6]; exact e3.put _ w5
  have ht6 : RdR S6 t ([], false) := ht5.keep (by omega) (o6 t (by omega))
  have hx6 : RdR S6 B.next ([], false) := e2.keep (by omega) (o6 _ (by omega))
  have g6 : S6.get 1 = some (.var zV) := (o6 1 (by omega)).trans g5
  obtain ⟨S7, f1, f2, f3⟩ := done2 ht6
  rw [decide_eq_true rfl] at f1
  obtain ⟨_, _, p6, hg6, _⟩ := id ht6
  have hP7 := hP6.mut f3 hg6
  have hx7 := hx6.apart f3 (Ne.symm htx)
  obtain ⟨S8, i1, i2, i3⟩ := done2 hx7
  rw [decide_eq_true rfl] at i1
  obtain ⟨_, _, p7, hg7, _⟩ := id hx7
  have hP8 := hP7.mut i3 hg7
  have lt7 := f3.2.1
  have lt8 := i3.2.1
  have w8 : S8.get S3.next = some (.var [.int .i64 x.id, .str x.label, v]) := i3.get (by omega) (by omega) (f3.get (by omega) (by omega) w6)
  have g8 : S8.get 1 = some (.var zV) := i3.get (by omega) (by omega) (f3.get (by omega) (by omega) g6)
  have st9 := Z01 (ds := [.int .i64 x.id, .str x.label, v]) g8 rfl
  have g9 : (S8.put 1 (.var [.int .i64 x.id, .str x.label, v])).get 1 = some (.var [.int .i64 x.id, .str x.label, v]) := St.get_put
  have hP9 := hP8.put (.var [.int .i64 x.id, .str x.label, v]) g8
  have h16 : x.props.length ≤ 16 := by
    simp only [Z27, Bool.and_eq_true, decide_eq_true_eq] at hpo
    exact hpo.1
  obtain ⟨q, q1, q2⟩ := hP9.view (by omega)
  have hone : (PV.agg [.int .i64 x.id, .str x.label, v]).cells.all PV.one = true := by
    show [PV.int .i64 x.id, .str x.label, v].all PV.one = true
    simp only [List.all_cons, List.all_nil, vc2]
    rfl
  have ho6 : v.cells.all PV.one = true := by rw [vc1]; simp [vc2]
  have hl6 : v.cells.length = 1 := by rw [vc1]; rfl
  have hview := view_tup2 (view_agg3 (look := (S8.put 1 (.var [.int .i64 x.id, .str x.label, v])).get) (live := true) (Pl.int .i64 x.id).view (Pl.str x.label).view q1) (Pl.int .i64 0).view
  refine ⟨q, ?_, q2⟩
  refine Zd rfl rfl ?_
  repeat' first | ((with_reducible show V _ _ _ _ _ _); first | refine V_X ⟨2, 13, B.next, [13, 5], [pv, .bool false], S0, B⟩ hS0 b4 (Nat.le_refl _) rfl ?_ | refine Z3t rfl (resG_cT rfl g9 rfl rfl) hview rfl | refine Z1 rfl ?_ | refine Zb rfl rfl ?_) | ((with_reducible show VO _ _ _ _ _ _ _); first | refine Z0i c1 rfl rfl ?_ | refine Z0i d1 rfl rfl ?_ | refine Z0i e1 rfl rfl ?_ | refine Z0i f1 rfl rfl ?_ | refine Z0i i1 rfl rfl ?_ | refine Ze rfl rfl rfl rfl rfl st4 ?_ | refine Ze rfl rfl ho6 hl6 rfl st6 ?_ | refine Z0e rfl w8 rfl ?_ | refine Ze rfl rfl hone rfl rfl st9 ?_ | refine Z0 rfl ?_ | refine Z8 rfl ?_ | refine Z2 ?_ | refine Zf rfl ?_) | ((with_reducible show VX _ _ _ _ _ _ _ _ _ _); first | refine Z93 hS1 rfl rfl (hD _ rfl rfl) ?_ | refine Z92 rfl rfl rfl rfl rfl b1 rfl ?_ | refine Z52 rfl rfl rfl s0 B0 rfl ?_ | refine Z51 rfl rfl rfl s0 B0 rfl ?_ | refine Z2e rfl rfl (fun _ => hbd _ _ _ rfl) ?_ | refine Zgz rfl rfl rfl rfl rfl rfl hcp ?_ | refine Z94 rfl rfl rfl rfl rfl ?_ | refine Z2e rfl rfl (fun _ => rfl) ?_)
def z5L : List PV := [.int .i64 0, .str [], .int .i64 0, .int .i64 0, .nilSl]
set_option maxHeartbeats 8000000 in
theorem run_ParseE {x : Lnk} {pk pv : PV} (hk : BV pk (Z25 (Z2z x.id))) (hv : BV pv (Zt x.out ++ Zt x.into ++ Z1l x.label ++ Z0y x.props)) (hvl : (Zt x.out ++ Zt x.into ++ Z1l x.label ++ Z0y x.props).length ≤ 1073741824) (hid : idB x.id = true) (hout : idB x.out = true) (hinto : idB x.into = true) (hnm : Z2o x.label = true) (hpo : Z27 x.props = true) (hvc : ∀ y ∈ x.props, y.name.length ≤ 140737488355328 ∧ ∃ cs, VC y.val cs) : ∃ q, T.R (.call n_keys_ParseE [.agg [pk, pv]] (.tuple [.agg [.int .i64 x.id, .str x.label, .int .i64 x.out, .int .i64 x.into, q], .int .i64 0])) ∧ LR PpC q x.props := by
  have ho' : 1 ≤ x.out ∧ x.out ≤ 281474976710656 := by simpa [idB] using hout
  have hi' : 1 ≤ x.into ∧ x.into ≤ 281474976710656 := by simpa [idB] using hinto
  have hpk := hk.pl
  have hpv := hv.pl
  have ho1 := Z84 hk
  have ho2 := Z84 hv
  have hI := Zaq hid
  have hm := Zid hid
  have hek : Z25 (Z2z x.id) = 2 :: (kB (Z2z x.id) ++ []) := by
    simp only [Z25, hm, if_true, List.append_nil]
    rfl
  rw [hek] at hk
  have hkb := Z6j (Z2z x.id)
  obtain ⟨S0, hS0⟩ : ∃ S0 : St, S0 = (emptySt.new (.var [pk, pv])).new (.var z5L) := ⟨_, rfl⟩
  have s0 : S0.get 0 = some (.var [pk, pv]) := by rw [hS0]; rfl
  have s1 : S0.get 1 = some (.var z5L) := by rw [hS0]; rfl
  have sn : S0.next = 2 := by rw [hS0]; rfl
  obtain ⟨t, B, b1, b2, b3, b4, b5⟩ := open1 (S := S0) hk hv (by simp; omega) (kinds := [2]) (by simp)
  have hop : Zc6 (2 :: (kB (Z2z x.id) ++ [])) [2] = (kB (Z2z x.id) ++ [], false) := by simp [Zc6]
  rw [hop] at b3
  have hbd := Zhf hv
  have hcp : ∀ c ∈ [pv, PV.bool false], Pl c := Z0b hpv (Z0b (.bool _) Z2u)
  have B0 : B.get 0 = some (.var [pk, pv]) := (b5 0 (by omega)).trans s0
  have B1 : B.get 1 = some (.var z5L) := (b5 1 (by omega)).trans s1
  have hD : ∀ (e : EC), e.get 13 = some (.ptr B.next 0) → e.get 5 = some (.ptr B.next 0) → ∀ u ∈ [13, 5], e.get u = some (.ptr B.next 0) := fun e h1 h2 u hu => by
    simp only [List.mem_cons, List.not_mem_nil, or_false] at hu
    rcases hu with rfl | rfl <;> assumption
  obtain ⟨S1, hS1⟩ : ∃ S1 : St, S1 = B.new (.var [pv, .bool false]) := ⟨_, rfl⟩
  have n1 : S1.next = B.next + 1 := by rw [hS1]; rfl
  have o1 : ∀ u, u < B.next → S1.get u = B.get u := fun u hu => by rw [hS1]; exact St.get_new_old hu
  have hx1 : RdR S1 B.next (Zt x.out ++ (Zt x.into ++ (Z1l x.label ++ (Z0y x.props ++ []))), false) := ⟨by omega, by simpa using hvl, pv, by rw [hS1]; exact St.get_new, by simpa using hv⟩
  have htB := b3.1
  have ht1 : RdR S1 t (kB (Z2z x.id) ++ [], false) := b3.keep (by omega) (o1 t htB)
  have g1 : S1.get 1 = some (.var z5L) := (o1 1 (by omega)).trans B1
  have htx : t ≠ B.next := by omega
  obtain ⟨S2, c1, c2, c3⟩ := key1 ht1 (kind := 7)
  have hrk := Z5x (v := Z2z x.id) hm (by simp [Z2z, Val.kind]) (by simp [Z2z, Val.kind]) hI []
  have hkk : (Z2z x.id).kind = 7 := rfl
  rw [hkk] at hrk
  rw [hrk] at c1 c2
  have lt2 := c3.2.1
  have g2 : S2.get 1 = some (.var z5L) := c3.get (by omega) (by omega) g1
  have hx2 := hx1.apart c3 (Ne.symm htx)
  generalize hSa : (S2.new (.var z5L)).put S2.next (.var [.int .i64 x.id, .str [], .int .i64 0, .int .i64 0, .nilSl]) = Sa
  have sta : storeAt (S2.new (.var z5L)) (.ptr S2.next 0) (.agg [.int .i64 x.id, .str [], .int .i64 0, .int .i64 0, .nilSl]) = some Sa := by rw [← hSa]; exact Z01 St.get_new rfl
  have wa : Sa.get S2.next = some (.var [.int .i64 x.id, .str [], .int .i64 0, .int .i64 0, .nilSl]) := by rw [← hSa]; exact St.get_put
  have oa : ∀ u, u < S2.next → Sa.get u = S2.get u := fun u hu => by rw [← hSa]; exact var_put.2.1 u hu
  have na : Sa.next = S2.next + 1 := by rw [← hSa]; rfl
  have hxa := hx2.keep (st' := Sa) (by omega) (oa _ (by omega))
  have hta : RdR Sa t ([], false) := c2.keep (by omega) (oa _ (by omega))
  have ga : Sa.get 1 = some (.var z5L) := (oa 1 (by omega)).trans g2
  obtain ⟨Sb, b6, b7, b8⟩ := num1 hxa (lo := 1) (hi := 281474976710656) (by omega) (by omega)
  rw [Ze5 (by omega) (by omega) (by omega) (by omega)] at b6 b7
  have ltb := b8.2.1
  have wb := b8.get (by omega) (by omega) wa
  have htb := hta.apart b8 htx
  have gb : Sb.get 1 = some (.var z5L) := b8.get (by omega) (by omega) ga
  have stb := Z4h (off := 2) (q := .int .i64 x.out) (ds := [.int .i64 x.id, .str [], .int .i64 x.out, .int .i64 0, .nilSl]) wb rfl (by simp) rfl
  generalize hSc : Sb.put S2.next (.var [.int .i64 x.id, .str [], .int .i64 x.out, .int .i64 0, .nilSl]) = Sc at stb
  have wc : Sc.get S2.next = some (.var [.int .i64 x.id, .str [], .int .i64 x.out, .int .i64 0, .nilSl]) := by rw [← hSc]; exact St.get_put
  have oc : ∀ u, u ≠ S2.next → Sc.get u = Sb.get u := fun u hu => by rw [← hSc]; exact St.get_put_old (Ne.symm hu)
  have nc : Sc.next = Sb.next := by rw [← hSc]; rfl
  have hxc := b7.keep (st' := Sc) (by omega) (oc _ (by omega))
  have htc := htb.keep (st' := Sc) (by omega) (oc _ (by omega))
  have gc : Sc.get 1 = some (.var z5L) := (oc 1 (by omega)).trans gb
  obtain ⟨Sd, d6, d7, d8⟩ := num1 hxc (lo := 1) (hi := 281474976710656) (by omega) (by omega)
  rw [Ze5 (by omega) (by omega) (by omega) (by omega)] at d6 d7
  have ltd := d8.2.1
  have wd := d8.get (by omega) (by omega) wc
  have htd := htc.apart d8 htx
  have gd' : Sd.get 1 = some (.var z5L) := d8.get (by omega) (by omega) gc
  have std := Z4h (off := 3) (q := .int .i64 x.into) (ds := [.int .i64 x.id, .str [], .int .i64 x.out, .int .i64 x.into, .nilSl]) wd rfl (by simp) rfl
  generalize hSe : Sd.put S2.next (.var [.int .i64 x.id, .str [], .int .i64 x.out, .int .i64 x.into, .nilSl]) = Se at std
  have we : Se.get S2.next = some (.var [.int .i64 x.id, .str [], .int .i64 x.out, .int .i64 x.into, .nilSl]) := by rw [← hSe]; exact St.get_put
  have oe : ∀ u, u ≠ S2.next → Se.get u = Sd.get u := fun u hu => by rw [← hSe]; exact St.get_put_old (Ne.symm hu)
  have ne : Se.next = Sd.next := by rw [← hSe]; rfl
  have hxe := d7.keep (st' := Se) (by omega) (oe _ (by omega))
  have hte := htd.keep (st' := Se) (by omega) (oe _ (by omega))
  have ge : Se.get 1 = some (.var z5L) := (oe 1 (by omega)).trans gd'
  obtain ⟨S3, d1, d2, d3⟩ := text1 hxe hnm
  have lt3 := d3.2.1
  have w3 := d3.get (by omega) (by omega) we
  have ht3 := hte.apart d3 htx
  have g3 : S3.get 1 = some (.var z5L) := d3.get (by omega) (by omega) ge
  have st4 := Z4h (off := 1) (q := .str x.label) (ds := [.int .i64 x.id, .str x.label, .int .i64 x.out, .int .i64 x.into, .nilSl]) w3 rfl (by simp) rfl
  generalize hS4 : S3.put S2.next (.var [.int .i64 x.id, .str x.label, .int .i64 x.out, .int .i64 x.into, .nilSl]) = S4 at st4
  have w4 : S4.get S2.next = some (.var [.int .i64 x.id, .str x.label, .int .i64 x.out, .int .i64 x.into, .nilSl]) := by rw [← hS4]; exact St.get_put
  have o4 : ∀ u, u ≠ S2.next → S4.get u = S3.get u := fun u hu => by rw [← hS4]; exact St.get_put_old (Ne.symm hu)
  have n4 : S4.next = S3.next := by rw [← hS4]; rfl
  have hx4 : RdR S4 B.next (Z0y x.props ++ [], false) := d2.keep (by omega) (o4 _ (by omega))
  have ht4 : RdR S4 t ([], false) := ht3.keep (by omega) (o4 _ (by omega))
  have g4 : S4.get 1 = some (.var z5L) := (o4 1 (by omega)).trans g3
  obtain ⟨v, S5, e1, e2, e3, e4⟩ := props1 hx4 hpo hvc
  have lt5 := e4.2.1
  have w5 : S5.get S2.next = some (.var [.int .i64 x.id, .str x.label, .int .i64 x.out, .int .i64 x.into, .nilSl]) := e4.get (by omega) (by omega) w4
  have ht5 := ht4.apart e4 htx
  have g5 : S5.get 1 = some (.var z5L) := e4.get (by omega) (by omega) g4
  obtain ⟨vc1, vc2⟩ := e3.one
  have st6 := Z4h (off := 4) (ds := [.int .i64 x.id, .str x.label, .int .i64 x.out, .int .i64 x.into, v]) w5 vc1 (by simp) rfl
  generalize hS6 : S5.put S2.next (.var [.int .i64 x.id, .str x.label, .int .i64 x.out, .int .i64 x.into, v]) = S6 at st6
  have w6 : S6.get S2.next = some (.var [.int .i64 x.id, .str x.label, .int .i64 x.out, .int .i64 x.into, v]) := by rw [← hS6]; exact St.get_put
  have o6 : ∀ u, u ≠ S2.next → S6.get u = S5.get u := fun u hu => by rw [← hS6]; exact St.get_put_old (Ne.symm hu)
  have n6 : S6.next = S5.next := by rw [← hS6]; rfl
  have hP6 : PA S6 v x.props := by rw [← hS6]; exact e3.put _ w5
  have ht6 : RdR S6 t ([], false) := ht5.keep (by omega) (o6 t (by omega))
  have hx6 : RdR S6 B.next ([], false) := e2.keep (by omega) (o6 _ (by omega))
  have g6 : S6.get 1 = some (.var z5L) := (o6 1 (by omega)).trans g5
  obtain ⟨S7, f1, f2, f3⟩ := done2 ht6
  rw [decide_eq_true rfl] at f1
  obtain ⟨_, _, p6, hg6, _⟩ := id ht6
  have hP7 := hP6.mut f3 hg6
  have hx7 := hx6.apart f3 (Ne.symm htx)
  obtain ⟨S8, i1, i2, i3⟩ := done2 hx7
  rw [decide_eq_true rfl] at i1
  obtain ⟨_, _, p7, hg7, _⟩ := id hx7
  have hP8 := hP7.mut i3 hg7
  have lt7 := f3.2.1
  have lt8 := i3.2.1
  have w8 : S8.get S2.next = some (.var [.int .i64 x.id, .str x.label, .int .i64 x.out, .int .i64 x.into, v]) := i3.get (by omega) (by omega) (f3.get (by omega) (by omega) w6)
  have g8 : S8.get 1 = some (.var z5L) := i3.get (by omega) (by omega) (f3.get (by omega) (by omega) g6)
  have st9 := Z01 (ds := [.int .i64 x.id, .str x.label, .int .i64 x.out, .int .i64 x.into, v]) g8 rfl
  have g9 : (S8.put 1 (.var [.int .i64 x.id, .str x.label, .int .i64 x.out, .int .i64 x.into, v])).get 1 = some (.var [.int .i64 x.id, .str x.label, .int .i64 x.out, .int .i64 x.into, v]) := St.get_put
  have hP9 := hP8.put (.var [.int .i64 x.id, .str x.label, .int .i64 x.out, .int .i64 x.into, v]) g8
  have h16 : x.props.length ≤ 16 := by
    simp only [Z27, Bool.and_eq_true, decide_eq_true_eq] at hpo
    exact hpo.1
  obtain ⟨q, q1, q2⟩ := hP9.view (by omega)
  have hone : (PV.agg [.int .i64 x.id, .str x.label, .int .i64 x.out, .int .i64 x.into, v]).cells.all PV.one = true := by
    show [PV.int .i64 x.id, .str x.label, .int .i64 x.out, .int .i64 x.into, v].all PV.one = true
    simp only [List.all_cons, List.all_nil, vc2]
    rfl
  have ho6 : v.cells.all PV.one = true := by rw [vc1]; simp [vc2]
  have hl6 : v.cells.length = 1 := by rw [vc1]; rfl
  have hview := view_tup2 (view_agg5 (look := (S8.put 1 (.var [.int .i64 x.id, .str x.label, .int .i64 x.out, .int .i64 x.into, v])).get) (live := true) (Pl.int .i64 x.id).view (Pl.str x.label).view (Pl.int .i64 x.out).view (Pl.int .i64 x.into).view q1) (Pl.int .i64 0).view
  refine ⟨q, ?_, q2⟩
  refine Zd rfl rfl ?_
  repeat' first | ((with_reducible show V _ _ _ _ _ _); first | refine V_X ⟨2, 13, B.next, [13, 5], [pv, .bool false], S0, B⟩ hS0 b4 (Nat.le_refl _) rfl ?_ | refine Z3t rfl (resG_cT rfl g9 rfl rfl) hview rfl | refine Z1 rfl ?_ | refine Zb rfl rfl ?_) | ((with_reducible show VO _ _ _ _ _ _ _); first | refine Z0i c1 rfl rfl ?_ | refine Z0i d1 rfl rfl ?_ | refine Z0i b6 rfl rfl ?_ | refine Z0i d6 rfl rfl ?_ | refine Ze rfl rfl rfl rfl rfl sta ?_ | refine Ze rfl rfl rfl rfl rfl stb ?_ | refine Ze rfl rfl rfl rfl rfl std ?_ | refine Z0i e1 rfl rfl ?_ | refine Z0i f1 rfl rfl ?_ | refine Z0i i1 rfl rfl ?_ | refine Ze rfl rfl rfl rfl rfl st4 ?_ | refine Ze rfl rfl ho6 hl6 rfl st6 ?_ | refine Z0e rfl w8 rfl ?_ | refine Ze rfl rfl hone rfl rfl st9 ?_ | refine Z0 rfl ?_ | refine Z8 rfl ?_ | refine Z2 ?_ | refine Zf rfl ?_) | ((with_reducible show VX _ _ _ _ _ _ _ _ _ _); first | refine Z93 hS1 rfl rfl (hD _ rfl rfl) ?_ | refine Z92 rfl rfl rfl rfl rfl b1 rfl ?_ | refine Z52 rfl rfl rfl s0 B0 rfl ?_ | refine Z51 rfl rfl rfl s0 B0 rfl ?_ | refine Z2e rfl rfl (fun _ => hbd _ _ _ rfl) ?_ | refine Zgz rfl rfl rfl rfl rfl rfl hcp ?_ | refine Z94 rfl rfl rfl rfl rfl ?_ | refine Z2e rfl rfl (fun _ => rfl) ?_)
theorem name_nz {s : List UInt8} (h : Z2o s = true) : ∀ c ∈ s, c ≠ 0 := by
  cases s with
  | nil => simp
  | cons d r =>
    simp only [Z2o, Bool.and_eq_true] at h
    intro c hc he
    have h1 := List.all_eq_true.1 h.2 c hc
    subst he
    simp [Z6k, isDg] at h1
theorem esc_id {s : List UInt8} (h : ∀ c ∈ s, c ≠ 0) : Zk s = s := by
  unfold Zk
  induction s with
  | nil => rfl
  | cons c r ih =>
    rw [List.flatMap_cons, if_neg (h c (by simp)), ih (fun d hd => h d (List.mem_cons_of_mem _ hd))]
    rfl
theorem may_strK {s : List UInt8} (h : Z2o s = true) : Zg 8 (Zbh s) = true := by
  have := (Zha h).2
  simp [Zg, Zbh]
  omega
theorem kB_str {s : List UInt8} (h : Z2o s = true) : kB (Zbh s) = 2 :: (s ++ [0, 1]) := by
  rw [kB_of (may_strK h) (by simp [Zbh, Val.kind]) (by simp [Zbh, Val.kind])]
  simp [Z1m, Zbh, esc_id (name_nz h)]
theorem Ziv {n : Int} (h : idB n = true) : (kB (Z4u n)).length = 9 ∧ (kB (Z2z n)).length = 9 := by
  rw [kB_vtx h, kB_edg h]
  simp [Z1m, Z4u, Z2z, Z26]
theorem Zev {s : List UInt8} (h : Z2o s = true) (x : List UInt8) : Z3v (kB (Zbh s) ++ x, false) = (x, false) := by
  have hr := Z5x (v := Zbh s) (may_strK h) (by simp [Zbh, Val.kind]) (by simp [Zbh, Val.kind]) (by simp [I64, Zbh, Val.n]) x
  have hk : (Zbh s).kind = 2 := rfl
  rw [hk] at hr
  have hs : (Zbh s).s = s := rfl
  simp [Z3v, hr, hs, h]
theorem elem_out {c : UInt8} (hc : c = 3 ∨ c = 4) {v e o : Int} {s : List UInt8} (hv : idB v = true) (he : idB e = true) (ho : idB o = true) (hs : Z2o s = true) : Zct (Z1x c v s ++ kB (Z2z e)) (Zt o) = some (Z2z e, o) := by
  have hb : Z1x c v s ++ kB (Z2z e) = c :: (kB (Z4u v) ++ (kB (Zbh s) ++ (kB (Z2z e) ++ []))) := by simp [Z1x]
  have r1 := Z5x (v := Z4u v) (Zic hv) (by simp [Z4u, Val.kind]) (by simp [Z4u, Val.kind]) (Zaq hv) (kB (Zbh s) ++ (kB (Z2z e) ++ []))
  have r2 := Zev hs (kB (Z2z e) ++ [])
  have r3 := Z5x (v := Z2z e) (Zid he) (by simp [Z2z, Val.kind]) (by simp [Z2z, Val.kind]) (Zaq he) []
  have k1 : (Z4u v).kind = 6 := rfl
  have k2 : (Z2z e).kind = 7 := rfl
  rw [k1] at r1
  rw [k2] at r3
  have ho' : 1 ≤ o ∧ o ≤ 281474976710656 := by simpa [idB] using ho
  have hn := Ze5 (n := o) (by omega) (lo := 1) (hi := 281474976710656) ho'.1 ho'.2 (by omega) []
  rw [List.append_nil] at hn
  have hm : c ∈ [3, 4, 5, 6] := by rcases hc with rfl | rfl <;> simp
  have hne : kB (Z4u v) ++ (kB (Zbh s) ++ (kB (Z2z e) ++ [])) ≠ [] := by
    intro h
    have := congrArg List.length h
    simp [(Ziv hv).1] at this
  rw [hb]
  simp only [Zct]
  rw [if_pos ⟨hm, hne⟩, if_pos hc]
  simp only [elemA, r1, r2, r3, hn]
  simp
theorem skip_one (c : UInt8) (b : List UInt8) : Z1i (c :: b, false) 1 true = ((b, false), true) := by simp [Z1i]
theorem sign_put (v : Val) (x : List UInt8) : Zki (Zet v ++ x, false) = (x, false) := by
  obtain ⟨c, hs, hl⟩ : ∃ c : List UInt8, Zet v = UInt8.ofNat c.length :: c ∧ c.length ≤ 40 := ⟨_, rfl, by rw [List.length_take]; omega⟩
  have hn : (UInt8.ofNat c.length).toNat = c.length := by simp; omega
  rw [hs]
  simp only [Zki, List.cons_append, hn]
  rw [decide_eq_true hl]
  unfold Z1i
  rw [if_neg (by simp; omega)]
  rw [Nat.add_comm 1 c.length]
  simp
theorem elem_idx {k : Nat} (hk : k = 6 ∨ k = 7) {ev : Val} (hek : ev.kind = (k : Int)) (hm : Zg 8 ev = true) (hi : I64 ev.n) {s : List UInt8} (hs : Z2o s = true) : Zct (Zfx ev.kind s ++ kB ev) [] = some (ev, 0) := by
  have hb : Zfx ev.kind s ++ kB ev = 5 :: (UInt8.ofNat k :: (kB (Zbh s) ++ (kB ev ++ []))) := by
    rw [hek]
    rcases hk with rfl | rfl <;> simp [Zfx]
  have hkn : (UInt8.ofNat k).toNat = k := by rcases hk with rfl | rfl <;> rfl
  have r2 := Zev hs (kB ev ++ [])
  have r3 := Z5x hm (by rw [hek]; rcases hk with rfl | rfl <;> decide) (by rw [hek]; rcases hk with rfl | rfl <;> decide) hi []
  rw [hek] at r3
  have hd : (decide (k = 6) || decide (k = 7)) = true := by rcases hk with rfl | rfl <;> rfl
  rw [hb]
  simp only [Zct]
  rw [if_pos ⟨by simp, by simp⟩]
  have h5 : ¬((5 : UInt8) = 3 ∨ (5 : UInt8) = 4) := by decide
  have h6 : ¬((5 : UInt8) = 6 ∧ (false = false)) := by decide
  simp only [h5, if_false, elemB, hkn, hd, skip_one, r2, h6, r3]
  rw [List.append_nil] at r3
  simp [r3]
theorem elem_prop {k : Nat} (hk : k = 6 ∨ k = 7) {ev : Val} (hek : ev.kind = (k : Int)) (hm : Zg 8 ev = true) (hi : I64 ev.n) {x : Prp} (hs : Z2o x.name = true) : Zct (Z8c ev.kind x ++ kB ev) [] = some (ev, 0) := by
  have hb : Z8c ev.kind x ++ kB ev = 6 :: (UInt8.ofNat k :: (kB (Zbh x.name) ++ (Zet x.val ++ (kB ev ++ [])))) := by
    rw [hek]
    rcases hk with rfl | rfl <;> simp [Z8c]
  have hkn : (UInt8.ofNat k).toNat = k := by rcases hk with rfl | rfl <;> rfl
  have r2 := Zev hs (Zet x.val ++ (kB ev ++ []))
  have r4 := sign_put x.val (kB ev ++ [])
  have r3 := Z5x hm (by rw [hek]; rcases hk with rfl | rfl <;> decide) (by rw [hek]; rcases hk with rfl | rfl <;> decide) hi []
  rw [hek] at r3
  have hd : (decide (k = 6) || decide (k = 7)) = true := by rcases hk with rfl | rfl <;> rfl
  rw [hb]
  simp only [Zct]
  rw [if_pos ⟨by simp, by simp⟩]
  have h5 : ¬((6 : UInt8) = 3 ∨ (6 : UInt8) = 4) := by decide
  simp only [h5, if_false, elemB, hkn, hd, skip_one, r2, true_and, if_true, r4, r3]
  try simp
def Nm (ev : Val) (x : Ent) : Prop := (∃ o, Zct x.1 x.2 = some (ev, o)) ∧ x.1.length ≤ 96
theorem nm_idx {k : Nat} (hk : k = 6 ∨ k = 7) {ev : Val} (hek : ev.kind = (k : Int)) (hm : Zg 8 ev = true) (hi : I64 ev.n) (hl9 : (kB ev).length = 9) {s : List UInt8} (hs : Z2o s = true) {l : List Prp} (hp : ∀ x ∈ l, Z2o x.name = true) : ∀ y ∈ Zku ev s l, Nm ev y := by
  intro y hy
  have hsl : ∀ {s : List UInt8}, Z2o s = true → (kB (Zbh s)).length ≤ 27 := fun h => by
    have := (Zha h).2
    rw [kB_str h]
    simp
    omega
  simp only [Zku, List.mem_cons, List.mem_map] at hy
  rcases hy with rfl | ⟨x, hx, rfl⟩
  · refine ⟨⟨0, elem_idx hk hek hm hi hs⟩, ?_⟩
    have := hsl hs
    simp [Zfx]
    omega
  · refine ⟨⟨0, elem_prop hk hek hm hi (hp x hx)⟩, ?_⟩
    have := hsl (hp x hx)
    have := sign_len x.val
    simp [Z8c]
    omega
theorem Zi1 : ∀ {o : Option Prp} {l : List Prp}, okP o l = true → ∀ x ∈ l, Z2o x.name = true
  | _, [], _, x, hx => by cases hx
  | _, y :: r, h, x, hx => by
    simp only [okP, Bool.and_eq_true] at h
    rcases List.mem_cons.1 hx with rfl | hx
    · exact h.1.1.1
    · exact Zi1 h.2 x hx
theorem ld_val {name : PV} {vc : List PV} (h4 : vc.length = 4) : ∀ look : Nat → Option Tok, loadAt look 4 true (.iptr (name :: vc) 1) = some (.agg vc) := fun look => by
  simp only [loadAt, behind, Option.bind_some, slice?]
  rw [if_pos (by simp [h4])]
  simp [← h4]
theorem sprops_loop {l : List Prp} {p q : PV} (hp : LR PpC p l) (hq : LR PpC q l) : ∀ (rest pre : List Prp), l = pre ++ rest →
    V T (PE fun x e st' => st' = emptySt ∧ x = .exit 0) [.code (.loop Z2v)] .normal (Zbe [(0, p), (1, q), (5, .int .i64 pre.length)]) emptySt := by
  obtain ⟨e1, e2, hbig⟩ := hp.len
  intro rest
  induction rest with
  | nil =>
    intro pre hl
    have hlt : decide ((pre.length : Int) < l.length) = false := decide_eq_false (by subst hl; simp)
    refine Zi ?_
    repeat' first | ((with_reducible show V _ _ _ _ _ _); first | refine Z2t hlt rfl rfl ?_ | refine Zbf [] rfl trivial ⟨rfl, rfl⟩ | refine Z1 rfl ?_) | ((with_reducible show VO _ _ _ _ _ _ _); first | refine Z07 rfl e1 e2 ?_ | refine Z0 rfl ?_ | refine Z2 ?_)
  | cons x rest ih =>
    intro pre hl
    have hlt : decide ((pre.length : Int) < l.length) = true := decide_eq_true (by subst hl; simp; omega)
    have hpl : pre.length < l.length := by subst hl; simp
    have hx : l[pre.length]? = some x := by subst hl; simp
    obtain ⟨cs, at1, _, v1, rfl, a1⟩ := hp.at (fun _ _ h => h.len5) hx
    obtain ⟨ds, at2, _, v2, rfl, b1⟩ := hq.at (fun _ _ h => h.len5) hx
    have hw : IntKind.i64.wrap ((pre.length : Int) + 1) = ((pre ++ [x]).length : Int) := by rw [Z03]; simp; omega
    have hi := ih (pre ++ [x]) (by rw [hl]; simp)
    have d1 := Zew (p := x.name = x.name) rfl
    have l1 := ld_val (name := .str x.name) a1.len4
    have l2 := ld_val (name := .str x.name) b1.len4
    have p1 := a1.pl
    have p2 := b1.pl
    have hs := run_Same a1 b1
    rw [decide_eq_true (Zj2 x.val)] at hs
    refine Zi ?_
    repeat' first | ((with_reducible show V _ _ _ _ _ _); first | refine Z22 hlt rfl rfl ?_ | refine V_re rfl hi ⟨rfl, rfl, Z2n hw, trivial⟩ | refine Z1 rfl ?_ | refine Zb rfl rfl ?_ | refine V_D rfl ?_) | ((with_reducible show VO _ _ _ _ _ _ _); first | refine Z07 rfl e1 e2 ?_ | refine Z0 rfl ?_ | refine Z2 ?_) | ((with_reducible show VD _ _ _ _ _ _ _); first | refine Zh3 rfl rfl at1 ?_ | refine Zh3 rfl rfl at2 ?_ | refine Zfe rfl (l1 _) ?_ | refine Zfe rfl (l2 _) ?_ | refine Z6q d1 rfl ?_ | refine Z4a rfl rfl hs ?_ | refine Z0h rfl ?_ | refine Z1k ?_ | refine Z9m rfl ?_)
theorem Zdh {l : List Prp} {p q : PV} (hp : LR PpC p l) (hq : LR PpC q l) : T.R (.call Z8h [p, q] (.bool true)) := by
  obtain ⟨e1, e2, hbig⟩ := hp.len
  obtain ⟨f1, f2, _⟩ := hq.len
  have pp := hp.pl (fun a _ cs h => h.pl)
  have pq := hq.pl (fun a _ cs h => h.pl)
  have hl := sprops_loop hp hq l [] rfl
  have d1 := Zew (p := (l.length : Int) = (l.length : Int)) rfl
  refine Zd rfl rfl ?_
  repeat' first | ((with_reducible show V _ _ _ _ _ _); first | refine Z8r rfl hl ⟨rfl, rfl, rfl, trivial⟩ ?_ | refine Z1 rfl ?_ | refine Zb rfl rfl ?_) | ((with_reducible show VO _ _ _ _ _ _ _); first | refine Z07 rfl e1 e2 ?_ | refine Z07 rfl f1 f2 ?_ | refine Z4 d1 rfl ?_ | refine Z0 rfl ?_ | refine Z2 ?_)
  rintro x e' st' ⟨rfl, rfl⟩
  repeat' first | refine Z1 rfl ?_ | refine Zc rfl rfl ?_ | refine Z0 rfl ?_ | refine Z2 ?_
  rfl
theorem Zjk {i : Int} {s : List UInt8} {l : List Prp} {p q : PV} (hp : LR PpC p l) (hq : LR PpC q l) : T.R (.call Z7x [.agg [.int .i64 i, .str s, p], .agg [.int .i64 i, .str s, q]] (.bool true)) := by
  have pp := hp.pl (fun a _ cs h => h.pl)
  have pq := hq.pl (fun a _ cs h => h.pl)
  have hs := Zdh hp hq
  have d1 := Zs (p := i = i) rfl
  have d2 := Zs (p := s = s) rfl
  refine Zd rfl rfl ?_
  repeat' first | refine Z1 rfl ?_ | refine Zc rfl rfl ?_ | ((with_reducible show VO _ _ _ _ _ _ _); first | refine Z4 d1 rfl ?_ | refine Z4 d2 rfl ?_ | refine Z7 rfl rfl hs ?_ | refine Z0 rfl ?_ | refine Z8 rfl ?_ | refine Z2 ?_ | refine Zf rfl ?_)
  rfl
theorem run_SameLink {i o n : Int} {s : List UInt8} {l : List Prp} {p q : PV} (hp : LR PpC p l) (hq : LR PpC q l) : T.R (.call Z9a [.agg [.int .i64 i, .str s, .int .i64 o, .int .i64 n, p], .agg [.int .i64 i, .str s, .int .i64 o, .int .i64 n, q]] (.bool true)) := by
  have pp := hp.pl (fun a _ cs h => h.pl)
  have pq := hq.pl (fun a _ cs h => h.pl)
  have hs := Zdh hp hq
  have d1 := Zs (p := i = i) rfl
  have d2 := Zs (p := s = s) rfl
  have d3 := Zs (p := o = o) rfl
  have d4 := Zs (p := n = n) rfl
  refine Zd rfl rfl ?_
  repeat' first | refine Z1 rfl ?_ | refine Zc rfl rfl ?_ | ((with_reducible show VO _ _ _ _ _ _ _); first | refine Z4 d1 rfl ?_ | refine Z4 d2 rfl ?_ | refine Z4 d3 rfl ?_ | refine Z4 d4 rfl ?_ | refine Z7 rfl rfl hs ?_ | refine Z0 rfl ?_ | refine Z8 rfl ?_ | refine Z2 ?_ | refine Zf rfl ?_)
  rfl
set_option maxHeartbeats 4000000 in
theorem named_loop {L : List Ent} {p : PV} (hp : LR EnC p L) {ev : Val} (hv : VC ev (cellsOf ev)) (hn : ∀ x ∈ L, Nm ev x ∧ x.2.length ≤ 1000000) : ∀ (rest pre : List Ent) (st : St), L = pre ++ rest → st.get 0 = some (.var (cellsOf ev)) → 0 < st.next →
    V T (PE fun x e st' => x = .exit 0) [.code (.loop Z3y)] .normal (Zbe [(3, .ptr 0 0), (10, p), (11, .int .i64 L.length), (12, .int .i64 pre.length)]) st := by
  obtain ⟨e1, e2, hbig⟩ := hp.len
  intro rest
  induction rest with
  | nil =>
    intro pre st hl h0 hlt0
    have hlt : decide ((pre.length : Int) < L.length) = false := decide_eq_false (by subst hl; simp)
    refine Zi ?_
    repeat' first | ((with_reducible show V _ _ _ _ _ _); first | refine Z2t hlt rfl rfl ?_ | refine Zbf [] rfl trivial rfl | refine Z1 rfl ?_) | refine Z0 rfl ?_ | refine Z2 ?_
  | cons x rest ih =>
    intro pre st hl h0 hlt0
    have hlt : decide ((pre.length : Int) < L.length) = true := decide_eq_true (by subst hl; simp; omega)
    have hpl : pre.length < L.length := by subst hl; simp
    have hx : L[pre.length]? = some x := by subst hl; simp
    obtain ⟨⟨⟨o, ho⟩, h96⟩, hx2⟩ := hn x (by rw [hl]; simp)
    obtain ⟨cs, at1, pk, pv, rfl, a1, a2⟩ := hp.at (fun _ _ h => h.len2) hx
    have ppk := a1.pl
    have ppv := a2.pl
    have o1 := Z84 a1
    have o2 := Z84 a2
    have hel := run_Elem a1 a2 (by omega) (by omega)
    rw [ho] at hel
    have hel : T.R (.call Zcm [.agg [pk, pv]] (.tuple [.agg (cellsOf ev), .int .i64 o, .int .i64 0])) := hel
    have hs := run_Same hv hv
    rw [decide_eq_true (Zj2 ev)] at hs
    have hw : IntKind.i64.wrap ((pre.length : Int) + 1) = ((pre ++ [x]).length : Int) := by rw [Z03]; simp; omega
    have hone : (PV.agg [pk, pv]).cells.all PV.one = true := by
      show [pk, pv].all PV.one = true
      simp [o1, o2]
    have hcl : [pk, pv].length = 2 := rfl
    have hle := Zh (p := (x.1.length : Int) > 96) (by omega)
    have hcp := Zfa ev
    generalize hS1 : (st.new (.var [.nilSl, .nilSl])).put st.next (.var [pk, pv]) = S1
    have st1 : storeAt (st.new (.var [.nilSl, .nilSl])) (.ptr st.next 0) (.agg [pk, pv]) = some S1 := by rw [← hS1]; exact Z01 St.get_new rfl
    have w1 : S1.get st.next = some (.var [pk, pv]) := by rw [← hS1]; exact St.get_put
    have u1 : ∀ u, u < st.next → S1.get u = st.get u := fun u hu => by rw [← hS1]; exact var_put.2.1 u hu
    have n1 : S1.next = st.next + 1 := by rw [← hS1]; rfl
    generalize hS2 : (S1.new (.var [.int .i64 0, .int .i64 0, .str [], .nilSl])).put S1.next (.var (cellsOf ev)) = S2
    have st2 : storeAt (S1.new (.var [.int .i64 0, .int .i64 0, .str [], .nilSl])) (.ptr S1.next 0) (.agg (cellsOf ev)) = some S2 := by rw [← hS2]; exact Z01 St.get_new rfl
    have w2 : S2.get S1.next = some (.var (cellsOf ev)) := by rw [← hS2]; exact St.get_put
    have u2 : ∀ u, u < S1.next → S2.get u = S1.get u := fun u hu => by rw [← hS2]; exact var_put.2.1 u hu
    have n2 : S2.next = S1.next + 1 := by rw [← hS2]; rfl
    have g1 : S2.get st.next = some (.var [pk, pv]) := (u2 _ (by omega)).trans w1
    have g0 : S2.get 0 = some (.var (cellsOf ev)) := (u2 0 (by omega)).trans ((u1 0 hlt0).trans h0)
    have hi := ih (pre ++ [x]) S2 (by rw [hl]; simp) g0 (by omega)
    refine Zi ?_
    repeat' first | ((with_reducible show V _ _ _ _ _ _); first | refine Z22 hlt rfl rfl ?_ | refine V_re rfl hi ⟨rfl, rfl, rfl, Z2n hw, trivial⟩ | refine Z1 rfl ?_ | refine Zb rfl rfl ?_) | ((with_reducible show VO _ _ _ _ _ _ _); first | refine Zq rfl rfl at1 ?_ | refine O_loadI rfl hcl ?_ | refine Ze rfl rfl hone rfl rfl st1 ?_ | refine Ze rfl rfl rfl rfl rfl st2 ?_ | refine Z0e rfl w1 rfl ?_ | refine Z0e rfl w2 rfl ?_ | refine Z0e rfl g0 rfl ?_ | refine Zr rfl g1 rfl ?_ | refine Z7 rfl rfl hel ?_ | refine Z7 rfl rfl hs ?_ | refine Z0a rfl a1 ?_ | refine Z4 hle rfl ?_ | refine Z0 rfl ?_ | refine Z8 rfl ?_ | refine Z2 ?_ | refine Zf rfl ?_)
theorem run_named {L : List Ent} {p : PV} (hp : LR EnC p L) {ev : Val} (hv : VC ev (cellsOf ev)) (hn : ∀ x ∈ L, Nm ev x ∧ x.2.length ≤ 1000000) : T.R (.call Zck [p, .agg (cellsOf ev)] (.bool true)) := by
  obtain ⟨e1, e2, hbig⟩ := hp.len
  have hl := named_loop hp hv hn L [] (emptySt.new (.var (cellsOf ev))) rfl rfl (by show 0 < 0 + 1; omega)
  refine Zd rfl rfl ?_
  repeat' first | refine Z8r rfl hl ⟨rfl, rfl, rfl, rfl, trivial⟩ ?_ | refine Z1 rfl ?_ | ((with_reducible show VO _ _ _ _ _ _ _); first | refine Z07 rfl e1 e2 ?_ | refine Z0 rfl ?_ | refine Z8 rfl ?_ | refine Z2 ?_)
  rintro x e' st' rfl
  repeat' first | refine Z1 rfl ?_ | refine Zc rfl rfl ?_ | refine Z0 rfl ?_ | refine Z2 ?_
  rfl
end Go.Proofs.YtgdjnlopdpjnaaaGreatDoor

/- keys.indexes: the walk. · keys.indexes. · keys.indexes, as a call. · keys.Edge. · keys.Edge, as a call. -/
import Derived.Test.YtgdjnlopdpjnaaaGreatDoorBackLToKeyF
set_option linter.unusedVariables false
set_option linter.unusedSimpArgs false
namespace Go.Proofs.YtgdjnlopdpjnaaaGreatDoor
open Go Go.AM Go.RowKit
def propEnt (elem : Val) (x : Prp) : Ent := (propKey elem.kind x ++ kB elem, [])
theorem EA.tok {st : St} {v : PV} {l : List Ent} (h : EA st v l) {u : Nat} (hu : Z15 v = some u) {cs : List PV} : u < st.next ∧ st.get u ≠ some (.var cs) := by
  obtain ⟨es, he, hv⟩ := h
  rcases hv with rfl | ⟨rfl, _⟩ | ⟨t, g, rfl, h3, h4⟩
  · cases hu
  · cases hu
  · injection hu with hu
    subst hu
    exact ⟨h4, by rw [h3]; simp⟩
set_option maxHeartbeats 4000000 in
theorem idxs_loop {l : List Prp} {p : PV} (hp : LR PpC p l) (hpm : ∀ x ∈ l, (putM x.val).length ≤ 100000000000000) {elem : Val} {ecs : List PV} (hv : VC elem ecs) (hll : l.length ≤ 100000000000) {t0 : Nat} : ∀ (rest pre : List Prp) (st : St) (v : PV) (acc : List Ent), l = pre ++ rest → EA st v acc → acc.length ≤ 1 + pre.length → st.get t0 = some (.var ecs) → t0 < st.next →
    V T (PE fun x e st' => x = .exit 0 ∧ ∃ v', e = ecOf [(7, v')] ∧ EA st' v' (acc ++ rest.map (propEnt elem))) [.code (.loop lp_keys_indexes_0)] .normal (ecOf [(3, .ptr t0 0), (7, v), (20, p), (21, .int .i64 l.length), (22, .int .i64 pre.length)]) st := by
  obtain ⟨_, _, hbig⟩ := hp.len
  intro rest
  induction rest with
  | nil =>
    intro pre st v acc hl hA hal hg0 hlt0
    have hlt : decide ((pre.length : Int) < l.length) = false := decide_eq_false (by subst hl; simp)
    refine Z08 ?_
    repeat' first | ((with_reducible show V _ _ _ _ _ _); first | refine Z2y hlt rfl rfl ?_ | refine V_out [(7, v)] rfl ⟨rfl, trivial⟩ ⟨rfl, v, rfl, by simpa using hA⟩ | refine V_O rfl ?_) | refine Z02 rfl ?_ | refine Z03 ?_
  | cons x rest ih =>
    intro pre st v acc hl hA hal hg0 hlt0
    have hlt : decide ((pre.length : Int) < l.length) = true := decide_eq_true (by subst hl; simp; omega)
    have hpl : pre.length < l.length := by subst hl; simp
    have hxm := hpm x (by rw [hl]; simp)
    obtain ⟨cs, hat, hvc⟩ := hp.at (fun _ _ h => h.len5) (j := pre.length) (a := x) (by subst hl; simp)
    have hcl := hvc.len5
    obtain ⟨hnl, vc, rfl, hvv⟩ := hvc
    have hw : IntKind.i64.wrap ((pre.length : Int) + 1) = ((pre ++ [x]).length : Int) := by rw [Z0l]; simp; omega
    have hone : (PV.str x.name :: vc).all PV.one = true := List.all_eq_true.2 (fun c hc => by
      rcases List.mem_cons.1 hc with rfl | hc
      · exact rfl
      · exact List.all_eq_true.1 hvv.one c hc)
    have hg : ((st.new (.var [.str [], .int .i64 0, .int .i64 0, .str [], .nilSl])).put st.next (.var (.str x.name :: vc))).get st.next = some (.var (.str x.name :: vc)) := St.get_put
    have hst : storeAt (st.new (.var [.str [], .int .i64 0, .int .i64 0, .str [], .nilSl])) (.ptr st.next 0) (.agg (.str x.name :: vc)) = some ((st.new (.var [.str [], .int .i64 0, .int .i64 0, .str [], .nilSl])).put st.next (.var (.str x.name :: vc))) := Z0i St.get_new (by rw [hcl]; rfl)
    have hnx : ((st.new (.var [.str [], .int .i64 0, .int .i64 0, .str [], .nilSl])).put st.next (.var (.str x.name :: vc))).next = st.next + 1 := rfl
    have hold : ∀ u, u < st.next → ((st.new (.var [.str [], .int .i64 0, .int .i64 0, .str [], .nilSl])).put st.next (.var (.str x.name :: vc))).get u = st.get u := fun u hu => by rw [St.get_put_old (by omega)]; exact St.get_new_old hu
    generalize hS : (st.new (.var [.str [], .int .i64 0, .int .i64 0, .str [], .nilSl])).put st.next (.var (.str x.name :: vc)) = S1 at hst hg hnx hold
    obtain ⟨v1, st1, h1, h2, h3⟩ := propR (kind := elem.kind) hnl (.inr ⟨x.val, vc, rfl, hvv, hxm, rfl⟩) ⟨S1.next, S1.next, S1.toks⟩ rfl
    have hpx : [6, UInt8.ofNat (elem.kind % 256).toNat] ++ kB (vStr x.name) ++ signB x.val = propKey elem.kind x := rfl
    rw [hpx] at h2
    have hkl := Z3w elem
    have hkn := Z3w (vStr x.name)
    have hsl := sign_len x.val
    have hpkl : (propKey elem.kind x).length ≤ 1000 := by rw [← hpx]; simp; omega
    have hk := keyK (lc_one hv true)
    rw [List.flatMap_cons, List.flatMap_nil, List.append_nil] at hk
    obtain ⟨v2, st2, k1, k2, k3⟩ := hk ⟨st1.next, st1.next, st1.toks⟩ v1 (propKey elem.kind x) rfl h2 (by omega)
    have gB : Grow S1 .nilSl ⟨S1.base, st1.next, st1.toks⟩ v1 := Grow.re (b := 0) h3
    have gC : Grow S1 .nilSl ⟨S1.base, st2.next, st2.toks⟩ v2 := gB.trans (Grow.re (st := ⟨S1.base, st1.next, st1.toks⟩) (b := 0) k3)
    have oB : ∀ u, u < S1.next → (⟨S1.base, st1.next, st1.toks⟩ : St).get u = S1.get u := fun u hu => gB.2.2.2 u hu (by simp [Z15])
    have oC : ∀ u, u < S1.next → (⟨S1.base, st2.next, st2.toks⟩ : St).get u = S1.get u := fun u hu => gC.2.2.2 u hu (by simp [Z15])
    have hAC : EA ⟨S1.base, st2.next, st2.toks⟩ v acc := hA.keep (by have := gC.2.1; omega) (fun u hu => (oC u (by omega)).trans (hold u hu))
    obtain ⟨v3, S4, a1, a2, a3⟩ := hAC.app (p := v2) (q := .nilSl) (x := propEnt elem x) (BO.of k2) (.inl .nil) (by omega)
    have ht : ∀ u, Z15 v = some u → u < st.next ∧ st.get u ≠ some (.var ecs) := fun u hu => hA.tok hu
    have o4 : ∀ u, u < S1.next → Z15 v ≠ some u → S4.get u = S1.get u := fun u hu hn => (a3.2.2.2 u (by have := gC.2.1; omega) hn).trans (oC u hu)
    have n0 : Z15 v ≠ some t0 := fun h => (ht t0 h).2 hg0
    have n9 : Z15 v ≠ some st.next := fun h => by have := (ht _ h).1; omega
    have g1 : S1.get t0 = some (.var ecs) := (hold t0 hlt0).trans hg0
    have hi := ih (pre ++ [x]) S4 v3 (acc ++ [propEnt elem x]) (by rw [hl]; simp) a2 (by simp; omega) ((o4 t0 (by omega) n0).trans g1) (by have := a3.2.1; have := gC.2.1; omega)
    have hall0 : ∀ i, ((mkC [8, 11, 12, 13, 14] [some 34, some 37, some 38, some 39, some 40] S1 [⟨S1.base, st1.next, st1.toks⟩, ⟨S1.base, st2.next, st2.toks⟩, ⟨S1.base, st2.next, st2.toks⟩, ⟨S1.base, st2.next, st2.toks⟩, S4] none).S i).get t0 = some (.var ecs) :=
      Z1o (Q := fun s => s.get t0 = some (.var ecs)) ⟨g1, (oB t0 (by omega)).trans g1, (oC t0 (by omega)).trans g1, (oC t0 (by omega)).trans g1, (oC t0 (by omega)).trans g1, (o4 t0 (by omega) n0).trans g1⟩
    have hall9 : ∀ i, ((mkC [8, 11, 12, 13, 14] [some 34, some 37, some 38, some 39, some 40] S1 [⟨S1.base, st1.next, st1.toks⟩, ⟨S1.base, st2.next, st2.toks⟩, ⟨S1.base, st2.next, st2.toks⟩, ⟨S1.base, st2.next, st2.toks⟩, S4] none).S i).get st.next = some (.var (.str x.name :: vc)) :=
      Z1o (Q := fun s => s.get st.next = some (.var (.str x.name :: vc))) ⟨hg, (oB _ (by omega)).trans hg, (oC _ (by omega)).trans hg, (oC _ (by omega)).trans hg, (oC _ (by omega)).trans hg, (o4 _ (by omega) n9).trans hg⟩
    have hvl := hvv.len4
    have hlw : 1 + 4 ≤ (PV.str x.name :: vc).length := by simp [hvl]
    have hdw : ((PV.str x.name :: vc).drop 1).take 4 = vc := by
      rw [List.drop_one, List.tail_cons]
      exact List.take_of_length_le (by omega)
    have hok2 : okEls 2 [[v2, .nilSl]] = true := by
      have h1 := (BO.of k2).one
      have h0 : PV.one .nilSl = true := rfl
      simp only [okEls, List.all_cons, List.all_nil, h1, h0]
      rfl
    have hb1 : ∀ (look : Nat → Option Tok) (e : EC), e.get 37 = some v2 → Z0v look e (.build [.nilSl, .nilSl] [(0, (1, .t 37))]) = some (.agg [v2, .nilSl]) := fun look e he => by
      rcases k2 with rfl | ⟨rfl, _⟩ | ⟨t, g, rfl, _⟩ <;> (simp only [Z0v, Z3z, elsOf, Opd.get, he]; rfl)
    have hb2 : ∀ (look : Nat → Option Tok) (e : EC), e.get 38 = some (.agg [v2, .nilSl]) → Z0v look e (.buildSl 2 [[.nilSl, .nilSl]] [(0, .t 38)]) = some (.sl [[v2, .nilSl]] true) := fun look e he => by
      rcases k2 with rfl | ⟨rfl, _⟩ | ⟨t, g, rfl, _⟩ <;> (simp only [Z0v, Z3z, elsOf, Opd.get, he]; rfl)
    obtain ⟨s1, q1, hc1, hp1⟩ := hvv.form2
    obtain ⟨s2, q2, hc2, hp2⟩ := hv.form2
    have hel := hv.len4
    clear hvv hv
    subst hc1 hc2
    refine Z08 ?_
    repeat' first | ((with_reducible show V _ _ _ _ _ _); first | refine Z2d hlt rfl rfl ?_ | refine V_C (mkC [8, 11, 12, 13, 14] [some 34, some 37, some 38, some 39, some 40] S1 [⟨S1.base, st1.next, st1.toks⟩, ⟨S1.base, st2.next, st2.toks⟩, ⟨S1.base, st2.next, st2.toks⟩, ⟨S1.base, st2.next, st2.toks⟩, S4] none) rfl rfl ?_ | refine V_monoP (V_re rfl hi ⟨rfl, rfl, rfl, rfl, some_int hw, trivial⟩) ?_ | refine V_O rfl ?_) | ((with_reducible show VO _ _ _ _ _ _ _); first | refine Z2q rfl rfl hat ?_ | refine Z0b rfl rfl hone hcl rfl hst ?_ | refine Z02 rfl ?_ | refine Z05 rfl ?_ | refine Z03 ?_) | ((with_reducible show Go.AM.VC _ _ _ _ _ _ _ _ _ _); first | refine Z3y rfl rfl rfl rfl rfl rfl rfl rfl h1 h3.1 rfl ?_ | refine Z3y rfl rfl rfl rfl rfl rfl rfl rfl k1 k3.1 rfl ?_ | refine C_loadV rfl rfl rfl hall0 rfl ?_ | refine C_loadV rfl rfl rfl hall9 rfl ?_ | refine Z42 rfl rfl rfl hall0 hel ?_ | refine C_loadW rfl rfl rfl hall9 hlw hdw ?_ | refine C_append rfl rfl rfl rfl rfl rfl rfl rfl rfl rfl hok2 (by decide) (by decide) a1 ?_ | refine C_move rfl rfl rfl rfl rfl rfl rfl (hb1 _ _ rfl) ?_ | refine C_move rfl rfl rfl rfl rfl rfl rfl (hb2 _ _ rfl) ?_ | refine Z3n rfl rfl (fun _ => rfl) ?_ | refine C_nil rfl rfl ?_)
    rintro y e st' ⟨rfl, b', rfl, r1⟩
    exact ⟨rfl, b', rfl, by rw [List.map_cons, ← List.singleton_append (l := rest.map _), ← List.append_assoc]; exact r1⟩
end Go.Proofs.YtgdjnlopdpjnaaaGreatDoor
set_option linter.unusedVariables false
set_option linter.unusedSimpArgs false
namespace Go.Proofs.YtgdjnlopdpjnaaaGreatDoor
open Go Go.AM Go.RowKit
theorem BO.view {st : St} {p : PV} {s : List UInt8} (h : BO st p s) : ∃ q, View true st.get p q ∧ BV q s := by
  rcases h with h | h
  · exact ⟨p, h.pl.view, h⟩
  · exact AB.view (.inr h)
theorem list_of_ex {α : Type} {P : Nat → α → Prop} : ∀ {n : Nat}, (∀ j, j < n → ∃ d, P j d) → ∃ ys : List α, ys.length = n ∧ ∀ (j : Nat) (d : α), ys[j]? = some d → P j d
  | 0, _ => ⟨[], rfl, fun j d h => by simp at h⟩
  | n + 1, h => by
    obtain ⟨ys, h1, h2⟩ := list_of_ex (n := n) (fun j hj => h j (by omega))
    obtain ⟨d, hd⟩ := h n (by omega)
    refine ⟨ys ++ [d], by simp [h1], fun j e he => ?_⟩
    rcases Nat.lt_or_ge j n with hlt | hge
    · rw [List.getElem?_append_left (by omega)] at he
      exact h2 j e he
    · rw [List.getElem?_append_right (by omega), h1] at he
      have hj : j = n := by
        rcases Nat.lt_or_ge n j with h3 | h3
        · have : ([d] : List α)[j - n]? = none := List.getElem?_eq_none (by simp; omega)
          rw [this] at he
          cases he
        · omega
      subst hj
      simp at he
      subst he
      exact hd
theorem EntsR.view {st : St} {es : List (List PV)} {l : List Ent} (h : EntsR st es l) : ∃ ys : List (List PV), ys.length = l.length ∧ (∀ (j : Nat) (cs ds : List PV), es[j]? = some cs → ys[j]? = some ds → cs.length = ds.length ∧ ∀ (i : Nat) (c d : PV), cs[i]? = some c → ds[i]? = some d → View true st.get c d) ∧ ∀ (j : Nat) (x : Ent) (ds : List PV), l[j]? = some x → ys[j]? = some ds → EnC x ds := by
  have key : ∀ (j : Nat), j < l.length → ∃ ds : List PV, ∀ (cs : List PV) (x : Ent), es[j]? = some cs → l[j]? = some x → EnC x ds ∧ cs.length = ds.length ∧ ∀ (i : Nat) (c d : PV), cs[i]? = some c → ds[i]? = some d → View true st.get c d := by
    intro j hj
    have hje : j < es.length := by rw [h.1]; exact hj
    obtain ⟨p, q, e, b1, b2⟩ := h.2 j es[j] l[j] (List.getElem?_eq_getElem hje) (List.getElem?_eq_getElem hj)
    obtain ⟨p', v1, c1⟩ := b1.view
    obtain ⟨q', v2, c2⟩ := b2.view
    refine ⟨[p', q'], fun cs x h1 h2 => ?_⟩
    rw [List.getElem?_eq_getElem hje] at h1
    rw [List.getElem?_eq_getElem hj] at h2
    injection h1 with h1
    injection h2 with h2
    rw [← h1, ← h2, e]
    refine ⟨⟨p', q', rfl, c1, c2⟩, rfl, fun i c d hc hd => ?_⟩
    match i with
    | 0 => simp at hc hd; subst hc hd; exact v1
    | 1 => simp at hc hd; subst hc hd; exact v2
    | i + 2 => simp at hc
  obtain ⟨ys, y1, y2⟩ := list_of_ex key
  refine ⟨ys, y1, fun j cs ds h1 h2 => ?_, fun j x ds h1 h2 => ?_⟩
  · have hj : j < l.length := by rw [← h.1]; exact (List.getElem?_eq_some_iff.1 h1).1
    exact (y2 j ds h2 cs l[j] h1 (List.getElem?_eq_getElem hj)).2
  · have hj : j < es.length := by rw [h.1]; exact (List.getElem?_eq_some_iff.1 h1).1
    exact (y2 j ds h2 (es[j]) x (List.getElem?_eq_getElem hj) h1).1
theorem EA.view {st : St} {v : PV} {l : List Ent} (h : EA st v l) (hl : l.length ≤ 140737488355328) : ∃ q, View true st.get v q ∧ LR EnC q l := by
  obtain ⟨es, he, hv⟩ := h
  obtain ⟨ys, y1, y2, y3⟩ := he.view
  rcases hv with rfl | ⟨rfl, h0⟩ | ⟨t, g, rfl, h3, h4⟩
  · exact ⟨.sl ys true, .sl es ys true (by rw [he.1, y1]) (fun j cs ds h1 h2 => (y2 j cs ds h1 h2).1) (fun j cs ds i c d h1 h2 h5 h6 => (y2 j cs ds h1 h2).2 i c d h5 h6), .inr ⟨ys, true, rfl, hl, y1, y3⟩⟩
  · subst h0
    have : l = [] := List.length_eq_zero_iff.1 he.1.symm
    exact ⟨.nilSl, .nilSl, .inl ⟨rfl, this⟩⟩
  · exact ⟨.sl ys false, view_rows h3 (by rw [he.1, y1]) y2, .inr ⟨ys, false, rfl, hl, y1, y3⟩⟩
end Go.Proofs.YtgdjnlopdpjnaaaGreatDoor
set_option linter.unusedVariables false
set_option linter.unusedSimpArgs false
namespace Go.Proofs.YtgdjnlopdpjnaaaGreatDoor
open Go Go.AM Go.RowKit
theorem build_kv {v2 w : PV} {s t : List UInt8} {st : St} (k2 : AB st v2 s) : ∀ (look : Nat → Option Tok) (e : EC) (i : Nat), e.get i = some v2 → Z0v look e (.build [.nilSl, .nilSl] [(0, (1, .t i))]) = some (.agg [v2, .nilSl]) := fun look e i he => by
  rcases k2 with rfl | ⟨rfl, _⟩ | ⟨t, g, rfl, _⟩ <;> (simp only [Z0v, Z3z, elsOf, Opd.get, he]; rfl)
theorem buildSl_kv {v2 : PV} {s : List UInt8} {st : St} (k2 : AB st v2 s) : ∀ (look : Nat → Option Tok) (e : EC) (i : Nat), e.get i = some (.agg [v2, .nilSl]) → Z0v look e (.buildSl 2 [[.nilSl, .nilSl]] [(0, .t i)]) = some (.sl [[v2, .nilSl]] true) := fun look e i he => by
  rcases k2 with rfl | ⟨rfl, _⟩ | ⟨t, g, rfl, _⟩ <;> (simp only [Z0v, Z3z, elsOf, Opd.get, he]; rfl)
set_option maxHeartbeats 4000000 in
theorem run_indexes {elem : Val} {ecs : List PV} {s : List UInt8} {l : List Prp} {p : PV} (hv : VC elem ecs) (hs : s.length ≤ 140737488355328) (hp : LR PpC p l) (hpm : ∀ x ∈ l, (putM x.val).length ≤ 100000000000000) (hll : l.length ≤ 100000000000) : ∃ q, T.R (.call n_keys_indexes [.agg ecs, .str s, p] q) ∧ LR EnC q (idxK elem s l) := by
  obtain ⟨e1, e2, e3⟩ := hp.len
  have hkl := Z3w elem
  have hks := Z3w (vStr s)
  have hg0 : (emptySt.new (.var ecs)).get 0 = some (.var ecs) := rfl
  generalize hS : emptySt.new (.var ecs) = S1 at hg0
  have hS1n : S1.next = 1 := by rw [← hS]; rfl
  obtain ⟨v1, st1, h1, h2, h3⟩ := labelR (kind := elem.kind) (.inr ⟨s, rfl, hs, rfl⟩) (by omega) ⟨S1.next, S1.next, S1.toks⟩ rfl
  have hk := keyK (lc_one hv true)
  rw [List.flatMap_cons, List.flatMap_nil, List.append_nil] at hk
  obtain ⟨v2, st2, k1, k2, k3⟩ := hk ⟨st1.next, st1.next, st1.toks⟩ v1 _ rfl h2 (by simp; omega)
  have gB : Grow S1 .nilSl ⟨S1.base, st1.next, st1.toks⟩ v1 := Grow.re (b := 0) h3
  have gC : Grow S1 .nilSl ⟨S1.base, st2.next, st2.toks⟩ v2 := gB.trans (Grow.re (st := ⟨S1.base, st1.next, st1.toks⟩) (b := 0) k3)
  have oB := gB.2.2.2 0 (by omega) (by simp [Z15])
  have oC := gC.2.2.2 0 (by omega) (by simp [Z15])
  have hall : ∀ i, ((mkC [4, 7] [some 14, some 17] S1 [⟨S1.base, st1.next, st1.toks⟩, ⟨S1.base, st2.next, st2.toks⟩] none).S i).get 0 = some (.var ecs) :=
    Z1o (Q := fun s => s.get 0 = some (.var ecs)) ⟨hg0, oB.trans hg0, oC.trans hg0⟩
  have hEA : EA ⟨S1.base, st2.next, st2.toks⟩ (.sl [[v2, .nilSl]] true) [(labelK elem.kind s ++ kB elem, [])] := ⟨_, (EntsR.nil _).snoc (p := v2) (q := .nilSl) (x := (labelK elem.kind s ++ kB elem, [])) (BO.of k2) (.inl .nil), .inl rfl⟩
  have hlp := idxs_loop hp hpm hv hll (t0 := 0) l [] ⟨S1.base, st2.next, st2.toks⟩ (.sl [[v2, .nilSl]] true) [(labelK elem.kind s ++ kB elem, [])] rfl hEA (by simp) (oC.trans hg0) (by have := gC.2.1; show 0 < st2.next; have : S1.next ≤ st2.next := this; omega)
  obtain ⟨s2, q2, hc2, hp2⟩ := hv.form2
  have hel := hv.len4
  have b1 := build_kv (w := .nilSl) (t := []) k2
  have b2 := buildSl_kv k2
  clear hv
  subst hc2
  refine Z24 rfl rfl ?_
  repeat' first | ((with_reducible show V _ _ _ _ _ _); first | refine V_C (mkC [4, 7] [some 14, some 17] S1 [⟨S1.base, st1.next, st1.toks⟩, ⟨S1.base, st2.next, st2.toks⟩] none) hS.symm rfl ?_ | refine V_cutTo rfl hlp ⟨rfl, rfl, rfl, rfl, rfl, trivial⟩ ?_ | refine V_O rfl ?_) | ((with_reducible show VO _ _ _ _ _ _ _); first | refine Z0p rfl e1 e2 ?_ | refine Z02 rfl ?_ | refine Z05 rfl ?_ | refine Z03 ?_) | ((with_reducible show Go.AM.VC _ _ _ _ _ _ _ _ _ _); first | refine Z3y rfl rfl rfl rfl rfl rfl rfl rfl h1 h3.1 rfl ?_ | refine Z3y rfl rfl rfl rfl rfl rfl rfl rfl k1 k3.1 rfl ?_ | refine C_loadV rfl rfl rfl hall rfl ?_ | refine Z42 rfl rfl rfl hall hel ?_ | refine Z3n rfl rfl (fun _ => b1 _ _ _ rfl) ?_ | refine Z3n rfl rfl (fun _ => b2 _ _ _ rfl) ?_ | refine Z3n rfl rfl (fun _ => rfl) ?_ | refine C_nil rfl rfl ?_)
  rintro x e st' ⟨rfl, v', rfl, r1⟩
  obtain ⟨q, w1, w2⟩ := r1.view (by simp; omega)
  repeat' first | refine Z2c rfl rfl w1 ?_ | refine V_O rfl ?_ | refine Z02 rfl ?_ | refine Z03 ?_
  exact w2
end Go.Proofs.YtgdjnlopdpjnaaaGreatDoor
set_option linter.unusedVariables false
set_option linter.unusedSimpArgs false
namespace Go.Proofs.YtgdjnlopdpjnaaaGreatDoor
open Go Go.AM Go.RowKit
theorem tail_key {f : Nat} {args : List PV} {t : List UInt8} (hm : MakesB T f args t) (ht : t.length ≤ 10000) {v : Val} {cs : List PV} (hv : VC v cs) (S : St) : ∃ v1 st1 v2 st2, T.R (.raw f args ⟨S.next, S.next, S.toks⟩ v1 st1) ∧ st1.base = S.next ∧ T.R (.raw n_keys_key [v1, .sl [cs] true] ⟨st1.next, st1.next, st1.toks⟩ v2 st2) ∧ st2.base = st1.next ∧ AB st2 v2 (t ++ kB v) ∧
    S.next ≤ st1.next ∧ S.next ≤ st2.next ∧ (∀ u, u < S.next → st1.get u = S.get u) ∧ (∀ u, u < S.next → st2.get u = S.get u) := by
  obtain ⟨v1, st1, h1, h2, h3⟩ := hm ⟨S.next, S.next, S.toks⟩ rfl
  have hk := keyK (lc_one hv true)
  rw [List.flatMap_cons, List.flatMap_nil, List.append_nil] at hk
  have hkl := Z3w v
  obtain ⟨v2, st2, k1, k2, k3⟩ := hk ⟨st1.next, st1.next, st1.toks⟩ v1 _ rfl h2 (by omega)
  have gB : Grow S .nilSl ⟨S.base, st1.next, st1.toks⟩ v1 := Grow.re (b := 0) h3
  have gC : Grow S .nilSl ⟨S.base, st2.next, st2.toks⟩ v2 := gB.trans (Grow.re (st := ⟨S.base, st1.next, st1.toks⟩) (b := 0) k3)
  exact ⟨v1, st1, v2, st2, h1, h3.1, k1, k3.1, k2, gB.2.1, gC.2.1, fun u hu => gB.2.2.2 u hu (by simp [Z15]), fun u hu => gC.2.2.2 u hu (by simp [Z15])⟩
theorem BO.cells {st : St} {p : PV} {s : List UInt8} (h : BO st p s) : p = .nilSl ∨ (∃ xs f, p = .sl xs f) ∨ ∃ t g o n f, p = .osl t g o n f := by
  rcases h with h | ⟨rfl, _⟩ | ⟨t, g, rfl, _⟩
  · cases h
    · exact .inl rfl
    · exact .inr (.inl ⟨_, _, rfl⟩)
  · exact .inl rfl
  · exact .inr (.inr ⟨_, _, _, _, _, rfl⟩)
theorem build_pq {p q : PV} {s t : List UInt8} {st st' : St} (hp : BO st p s) (hq : BO st' q t) : ∀ (look : Nat → Option Tok) (e : EC) (i j : Nat), e.get i = some p → e.get j = some q → Z0v look e (.build [.nilSl, .nilSl] [(0, (1, .t i)), (1, (1, .t j))]) = some (.agg [p, q]) := fun look e i j hi hj => by
  rcases hp.cells with rfl | ⟨xs, f, rfl⟩ | ⟨t, g, o, n, f, rfl⟩ <;> rcases hq.cells with rfl | ⟨xs', f', rfl⟩ | ⟨t', g', o', n', f', rfl⟩ <;> (simp only [Z0v, Z3z, elsOf, Opd.get, hi, hj]; rfl)
theorem build_3 {p q p' q' p'' q'' : PV} {s t s' t' s'' t'' : List UInt8} {st : St} (hp : BO st p s) (hq : BO st q t) (hp' : BO st p' s') (hq' : BO st q' t') (hp'' : BO st p'' s'') (hq'' : BO st q'' t'') : ∀ (look : Nat → Option Tok) (e : EC) (i j k : Nat), e.get i = some (.agg [p, q]) → e.get j = some (.agg [p', q']) → e.get k = some (.agg [p'', q'']) → Z0v look e (.buildSl 2 [[.nilSl, .nilSl], [.nilSl, .nilSl], [.nilSl, .nilSl]] [(0, .t i), (1, .t j), (2, .t k)]) = some (.sl [[p, q], [p', q'], [p'', q'']] true) := fun look e i j k hi hj hk => by
  have h1 := hp.one
  have h2 := hq.one
  have h3 := hp'.one
  have h4 := hq'.one
  have h5 := hp''.one
  have h6 := hq''.one
  simp only [Z0v, Z3z, elsOf, Opd.get, hi, hj, hk]
  simp [Z23, Z1i, PV.cells, PV.isJunk, h1, h2, h3, h4, h5, h6]
theorem EntsR.append {st : St} {es xs : List (List PV)} {l m : List Ent} (h : EntsR st es l) (h2 : EntsR st xs m) : EntsR st (es ++ xs) (l ++ m) :=
  ⟨by simp [h.1, h2.1], fun j cs y hj hy => by
    rcases Nat.lt_or_ge j l.length with hlt | hge
    · rw [List.getElem?_append_left (by rw [h.1]; exact hlt)] at hj
      rw [List.getElem?_append_left hlt] at hy
      exact h.2 j cs y hj hy
    · rw [List.getElem?_append_right (by rw [h.1]; exact hge), h.1] at hj
      rw [List.getElem?_append_right hge] at hy
      exact h2.2 _ cs y hj hy⟩
theorem EntsR.okEls {st : St} {es : List (List PV)} {l : List Ent} (h : EntsR st es l) : okEls 2 es = true := by
  unfold Go.AM.okEls
  rw [List.all_eq_true]
  intro cs hcs
  obtain ⟨j, hj⟩ := List.getElem?_of_mem hcs
  have hlt : j < l.length := by rw [← h.1]; exact (List.getElem?_eq_some_iff.1 hj).1
  obtain ⟨p, q, rfl, b1, b2⟩ := h.2 j cs l[j] hj (List.getElem?_eq_getElem hlt)
  have h1 := b1.one
  have h2 := b2.one
  simp [h1, h2]
theorem ents_of_lr {st : St} {q : PV} {m : List Ent} (h : LR EnC q m) : ∃ xs, srcOf st q = some xs ∧ EntsR st xs m := by
  rcases h with ⟨rfl, rfl⟩ | ⟨xs, f, rfl, _, h1, h2⟩
  · exact ⟨[], rfl, .nil _⟩
  · refine ⟨xs, rfl, h1, fun j cs x hj hx => ?_⟩
    obtain ⟨p, q, e, b1, b2⟩ := h2 j x cs hx hj
    exact ⟨p, q, e, .inl b1, .inl b2⟩
theorem ea_app {st : St} {es : List (List PV)} {l m : List Ent} (h : EntsR st es l) {q : PV} (hq : LR EnC q m) (hne : m ≠ []) (hl : l.length + m.length ≤ 1000000000000) : ∃ src v' st', srcOf st q = some src ∧ okEls 2 src = true ∧ Z0w st 2 48 (.sl es true) src = some (v', st') ∧ EA st' v' (l ++ m) ∧ Grow st .nilSl st' v' := by
  obtain ⟨xs, h1, h2⟩ := ents_of_lr (st := st) hq
  have hs := h.append h2
  have hxl := h2.1
  have hml : 0 < m.length := List.length_pos_iff.2 hne
  have hxe : xs ≠ [] := by intro h0; rw [h0] at hxl; simp at hxl; omega
  refine ⟨xs, _, _, h1, h2.okEls, appendTo_full hxe (by rw [h.1, hxl]; simp only [Z0e]; omega) h.all, ⟨_, hs.keep (by simp [St.new]) (fun u g cs hu _ => St.get_new_old hu), .inr (.inr ⟨st.next, 0, by simp, St.get_new, by simp [St.new]⟩)⟩, rfl, by simp [St.new], .inr ⟨st.next, rfl, Nat.le_refl _⟩, fun u hu _ => St.get_new_old hu⟩
theorem idx_len (elem : Val) (s : List UInt8) (l : List Prp) : (idxK elem s l).length = l.length + 1 := by simp [idxK]
theorem var_put {A : St} {z cs : List PV} : ((A.new (.var z)).put A.next (.var cs)).get A.next = some (.var cs) ∧ (∀ u, u < A.next → ((A.new (.var z)).put A.next (.var cs)).get u = A.get u) ∧ ((A.new (.var z)).put A.next (.var cs)).next = A.next + 1 :=
  ⟨St.get_put, fun u hu => by rw [St.get_put_old (by omega)]; exact St.get_new_old hu, rfl⟩
set_option maxHeartbeats 4000000 in
theorem run_Vertex {x : Vtx} {cs : List PV} (hx : VtC x cs) (hpm : ∀ y ∈ x.props, (putM y.val).length ≤ 100000000000000) (hlen : (Z2s x.label).length + (Z20 x.props).length ≤ 100000000000) (hlb : x.label.length ≤ 1000000000000) (hll : x.props.length ≤ 100000000000) : ∃ q, T.R (.call n_keys_Vertex [.agg cs] q) ∧ LR EnC q (vtxK x) := by
  obtain ⟨hid, hlab, p, rfl, hp⟩ := hx
  have hpp := hp.pl (fun a _ cs h => h.pl)
  obtain ⟨e1, e2, e3⟩ := hp.len
  have hbad := run_badId (n := x.id)
  by_cases hi : idB x.id = true
  · have hvK : vtxK x = (Z35 (vVtx x.id), Z2s x.label ++ Z20 x.props) :: idxK (vVtx x.id) x.label x.props := by simp [vtxK, hi]
    rw [hvK]
    have hb : (!idB x.id) = false := by simp [hi]
    rw [hb] at hbad
    have hv := vc_vtx hid
    obtain ⟨qk, k1, k2⟩ := (keyOneR hv).call
    obtain ⟨qt, t1, t2⟩ := call_putText (.nil) (s := []) (t := x.label) (by simp only [List.length_nil]; omega) hlab
    rw [List.nil_append] at t2
    obtain ⟨qp, p1, p2⟩ := call_putProps t2 hp (by omega)
    obtain ⟨qi, i1, i2⟩ := run_indexes hv hlab hp hpm hll
    have hel : LR EnC qi (idxK (vVtx x.id) x.label x.props) := i2
    have hpk := k2.pl
    have hpt := t2.pl
    have hpq := p2.pl
    have hpi := hel.pl (fun a _ cs h => h.pl)
    have hV := run_VVertex x.id
    have hpx := hpp
    generalize hS : ((emptySt.new (.var [.int .i64 x.id, .str x.label, p])).new (.var [.int .i64 0, .int .i64 0, .str [], .nilSl])).put 1 (.var [.int .i64 6, .int .i64 x.id, .str [], .nilSl]) = S1
    have g0 : S1.get 0 = some (.var [.int .i64 x.id, .str x.label, p]) := by rw [← hS]; rfl
    have g1 : S1.get 1 = some (.var [.int .i64 6, .int .i64 x.id, .str [], .nilSl]) := by rw [← hS]; rfl
    have n0 : S1.next = 2 := by rw [← hS]; rfl
    have hst : storeAt ((emptySt.new (.var [.int .i64 x.id, .str x.label, p])).new (.var [.int .i64 0, .int .i64 0, .str [], .nilSl])) (.ptr 1 0) (.agg [.int .i64 6, .int .i64 x.id, .str [], .nilSl]) = some S1 := by rw [← hS]; rfl
    generalize hS2 : (S1.new (.var [.nilSl, .nilSl])).put S1.next (.var [qk, qp]) = S2
    have h22 : S2.get S1.next = some (.var [qk, qp]) := by rw [← hS2]; exact St.get_put
    have h20 : S2.get 0 = some (.var [.int .i64 x.id, .str x.label, p]) := by rw [← hS2]; exact (var_put.2.1 0 (by omega)).trans g0
    have h21 : S2.get 1 = some (.var [.int .i64 6, .int .i64 x.id, .str [], .nilSl]) := by rw [← hS2]; exact (var_put.2.1 1 (by omega)).trans g1
    have n2 : S2.next = 3 := by rw [← hS2]; show S1.next + 1 = 3; omega
    have hq1 : BO S1 qk (Z35 (vVtx x.id)) := .inl k2
    have hq2 : BO S1 qp (Z2s x.label ++ Z20 x.props) := .inl p2
    have hb1 := build_pq hq1 hq2
    have ho : (PV.agg [qk, qp]).cells.all PV.one = true := by
      have h1 := hq1.one
      have h2 := hq2.one
      simp [PV.cells, h1, h2]
    have hE : EntsR S2 [[qk, qp]] [(Z35 (vVtx x.id), Z2s x.label ++ Z20 x.props)] := (EntsR.nil S2).snoc (p := qk) (q := qp) (x := (Z35 (vVtx x.id), Z2s x.label ++ Z20 x.props)) (.inl k2) (.inl p2)
    obtain ⟨src, v3, S3, a1, a2, a3, a4, a5⟩ := ea_app hE hel (by simp [idxK]) (by rw [idx_len]; simp; omega)
    have o3 : ∀ u, u < 3 → S3.get u = S2.get u := fun u hu => a5.2.2.2 u (by omega) (by simp [Z15])
    have ha0 := Z1o (Q := fun s => s.get 0 = some (.var [.int .i64 x.id, .str x.label, p])) (a := S1) (r := [S2]) ⟨g0, h20⟩
    have ha1 := Z1o (Q := fun s => s.get 1 = some (.var [.int .i64 6, .int .i64 x.id, .str [], .nilSl])) (a := S1) (r := [S2]) ⟨g1, h21⟩
    have hb0 := Z1o (Q := fun s => s.get 0 = some (.var [.int .i64 x.id, .str x.label, p])) (a := S2) (r := [S3]) ⟨h20, (o3 0 (by omega)).trans h20⟩
    have hb1' := Z1o (Q := fun s => s.get 1 = some (.var [.int .i64 6, .int .i64 x.id, .str [], .nilSl])) (a := S2) (r := [S3]) ⟨h21, (o3 1 (by omega)).trans h21⟩
    have hb2 := Z1o (Q := fun s => s.get S1.next = some (.var [qk, qp])) (a := S2) (r := [S3]) ⟨h22, (o3 S1.next (by omega)).trans h22⟩
    have hbs : ∀ (look : Nat → Option Tok) (e : EC), e.get 20 = some (.agg [qk, qp]) → Z0v look e (.buildSl 2 [[.nilSl, .nilSl]] [(0, .t 20)]) = some (.sl [[qk, qp]] true) := fun look e he => by
      have h1 := hq1.one
      have h2 := hq2.one
      simp only [Z0v, Z3z, elsOf, Opd.get, he]
      simp [Z23, Z1i, PV.cells, PV.isJunk, h1, h2]
    obtain ⟨q, w1, w2⟩ := a4.view (by rw [List.length_append, idx_len]; simp; omega)
    refine Z24 rfl rfl ?_
    repeat' first | ((with_reducible show V _ _ _ _ _ _); first | refine V_C (mkC [10] [none] S1 [S2] (some (9, 4, 0, [.nilSl, .nilSl]))) rfl rfl ?_ | refine V_C (mkC [8] [some 28] S2 [S3] none) rfl rfl ?_ | refine Z2c rfl rfl w1 ?_ | refine V_O rfl ?_ | refine Z1e rfl rfl ?_) | ((with_reducible show VO _ _ _ _ _ _ _); first | refine Z0u rfl rfl hbad ?_ | refine Z0u rfl rfl hV ?_ | refine Z0b rfl rfl rfl rfl rfl hst ?_ | refine Z02 rfl ?_ | refine Z05 rfl ?_ | refine Z03 ?_) | ((with_reducible show Go.AM.VC _ _ _ _ _ _ _ _ _ _); first | refine Z42 rfl rfl rfl ha1 rfl ?_ | refine Z42 rfl rfl rfl hb1' rfl ?_ | refine Z42 rfl rfl rfl hb2 rfl ?_ | refine C_loadV rfl rfl rfl ha0 rfl ?_ | refine C_loadV rfl rfl rfl hb0 rfl ?_ | refine C_call rfl rfl rfl rfl (fun _ => Z1a (by (repeat' (first | exact Pl.int _ _ | exact Pl.bool _ | exact Pl.str _ | exact Pl.nilSl | exact Z1d | refine Z0m ?_ ?_ | refine Pl.tuple _ ?_ | refine Pl.agg _ ?_ | refine Pl.func _ _ ?_ | assumption | refine Pl.iptr _ _ ?_ | exact Z1h | refine Z11 ?_ ?_ | refine Pl.sl _ _ ?_)); first | done | fail)) k1 ?_ | refine C_call rfl rfl rfl rfl (fun _ => Z1a (by (repeat' (first | exact Pl.int _ _ | exact Pl.bool _ | exact Pl.str _ | exact Pl.nilSl | exact Z1d | refine Z0m ?_ ?_ | refine Pl.tuple _ ?_ | refine Pl.agg _ ?_ | refine Pl.func _ _ ?_ | assumption | refine Pl.iptr _ _ ?_ | exact Z1h | refine Z11 ?_ ?_ | refine Pl.sl _ _ ?_)); first | done | fail)) t1 ?_ | refine C_call rfl rfl rfl rfl (fun _ => Z1a (by (repeat' (first | exact Pl.int _ _ | exact Pl.bool _ | exact Pl.str _ | exact Pl.nilSl | exact Z1d | refine Z0m ?_ ?_ | refine Pl.tuple _ ?_ | refine Pl.agg _ ?_ | refine Pl.func _ _ ?_ | assumption | refine Pl.iptr _ _ ?_ | exact Z1h | refine Z11 ?_ ?_ | refine Pl.sl _ _ ?_)); first | done | fail)) p1 ?_ | refine C_call rfl rfl rfl rfl (fun _ => Z1a (by (repeat' (first | exact Pl.int _ _ | exact Pl.bool _ | exact Pl.str _ | exact Pl.nilSl | exact Z1d | refine Z0m ?_ ?_ | refine Pl.tuple _ ?_ | refine Pl.agg _ ?_ | refine Pl.func _ _ ?_ | assumption | refine Pl.iptr _ _ ?_ | exact Z1h | refine Z11 ?_ ?_ | refine Pl.sl _ _ ?_)); first | done | fail)) i1 ?_ | refine Z3n rfl rfl (fun _ => hb1 _ _ _ _ rfl rfl) ?_ | refine Z3n rfl rfl (fun _ => hbs _ _ rfl) ?_ | refine C_alloc rfl rfl rfl rfl ?_ | refine C_store (q := .agg [qk, qp]) rfl rfl rfl rfl rfl hS2.symm rfl rfl ho rfl rfl (by decide) ?_ | refine C_append rfl rfl rfl rfl rfl rfl rfl rfl rfl a1 a2 (by decide) (by decide) a3 ?_ | refine Z3n rfl rfl (fun _ => rfl) ?_ | refine C_nil rfl rfl ?_)
    exact w2
  · have hvK : vtxK x = [] := by simp [vtxK, hi]
    rw [hvK]
    have hb : (!idB x.id) = true := by simp [hi]
    rw [hb] at hbad
    refine Z24 rfl rfl ?_
    repeat' first | ((with_reducible show V _ _ _ _ _ _); first | refine Z2c rfl rfl (Pl.view .nilSl) ?_ | refine V_O rfl ?_ | refine Z16 rfl rfl ?_) | ((with_reducible show VO _ _ _ _ _ _ _); first | refine Z0u rfl rfl hbad ?_ | refine Z02 rfl ?_ | refine Z05 rfl ?_ | refine Z03 ?_)
    exact .inl ⟨rfl, rfl⟩
end Go.Proofs.YtgdjnlopdpjnaaaGreatDoor
set_option linter.unusedVariables false
set_option linter.unusedSimpArgs false
namespace Go.Proofs.YtgdjnlopdpjnaaaGreatDoor
open Go Go.AM Go.RowKit
theorem BO.after {st st' : St} {p : PV} {s : List UInt8} (h : BO st p s) (hn : st.next ≤ st'.next) (hk : ∀ u, u < st.next → st'.get u = st.get u) : BO st' p s := h.keep hn (fun u g hu _ => hk u hu)
theorem ones2 {st : St} {p q : PV} {s t : List UInt8} (hp : BO st p s) (hq : BO st q t) : (PV.agg [p, q]).cells.all PV.one = true := by
  have h1 := hp.one
  have h2 := hq.one
  simp [PV.cells, h1, h2]
set_option maxHeartbeats 8000000 in
theorem run_Edge {x : Lnk} {cs : List PV} (hx : LkC x cs) (hpm : ∀ y ∈ x.props, (putM y.val).length ≤ 100000000000000) (hlen : (Z2s x.label).length + (Z20 x.props).length ≤ 10000000000) (hlb : x.label.length ≤ 1000000000000) (hll : x.props.length ≤ 100000000000) : ∃ q, T.R (.call n_keys_Edge [.agg cs] q) ∧ LR EnC q (lnkK x) := by
  obtain ⟨hid, hlab, hout, hinto, p, rfl, hp⟩ := hx
  have hpp := hp.pl (fun a _ cs h => h.pl)
  have b1 := run_badId (n := x.id)
  have b2 := run_badId (n := x.out)
  have b3 := run_badId (n := x.into)
  by_cases h1 : idB x.id = true
  · by_cases h2 : idB x.out = true
    · by_cases h3 : idB x.into = true
      · have hvK : lnkK x = (Z35 (vEdg x.id), Z2g x.out ++ Z2g x.into ++ Z2s x.label ++ Z20 x.props) :: (Z1v 3 x.out x.label ++ kB (vEdg x.id), Z2g x.into) :: (Z1v 4 x.into x.label ++ kB (vEdg x.id), Z2g x.out) :: idxK (vEdg x.id) x.label x.props := by simp [lnkK, h1, h2, h3]
        rw [hvK]
        have c1 : (!idB x.id) = false := by simp [h1]
        have c2 : (!idB x.out) = false := by simp [h2]
        have c3 : (!idB x.into) = false := by simp [h3]
        rw [c1] at b1
        rw [c2] at b2
        rw [c3] at b3
        have hv := vc_edg hid
        obtain ⟨qk, k1, k2⟩ := (keyOneR hv).call
        obtain ⟨qo, o1, o2⟩ := call_put2 hout hinto true
        have hl1 : (Z2g x.out).length ≤ 10 := Z1r _ _
        have hl2 : (Z2g x.into).length ≤ 10 := Z1r _ _
        obtain ⟨qt, t1, t2⟩ := call_putText o2 (t := x.label) (by simp only [List.length_append]; omega) hlab
        obtain ⟨qp, p1, p2⟩ := call_putProps t2 hp (by simp only [List.length_append]; omega)
        obtain ⟨qi, i1, i2⟩ := run_indexes hv hlab hp hpm hll
        have hel : LR EnC qi (idxK (vEdg x.id) x.label x.props) := i2
        obtain ⟨qn, n1, n2⟩ := call_put1 hinto true
        obtain ⟨qm, m1, m2⟩ := call_put1 hout true
        have hpk := k2.pl
        have hpo := o2.pl
        have hpt := t2.pl
        have hpq := p2.pl
        have hpn := n2.pl
        have hpm2 := m2.pl
        have hpi := hel.pl (fun a _ cs h => h.pl)
        have hV := run_VEdge x.id
        generalize hS : ((emptySt.new (.var [.int .i64 x.id, .str x.label, .int .i64 x.out, .int .i64 x.into, p])).new (.var [.int .i64 0, .int .i64 0, .str [], .nilSl])).put 1 (.var [.int .i64 7, .int .i64 x.id, .str [], .nilSl]) = S1
        have g0 : S1.get 0 = some (.var [.int .i64 x.id, .str x.label, .int .i64 x.out, .int .i64 x.into, p]) := by rw [← hS]; rfl
        have g1 : S1.get 1 = some (.var [.int .i64 7, .int .i64 x.id, .str [], .nilSl]) := by rw [← hS]; rfl
        have n0 : S1.next = 2 := by rw [← hS]; rfl
        have hst : storeAt ((emptySt.new (.var [.int .i64 x.id, .str x.label, .int .i64 x.out, .int .i64 x.into, p])).new (.var [.int .i64 0, .int .i64 0, .str [], .nilSl])) (.ptr 1 0) (.agg [.int .i64 7, .int .i64 x.id, .str [], .nilSl]) = some S1 := by rw [← hS]; rfl
        generalize hS2 : (S1.new (.var [.nilSl, .nilSl])).put S1.next (.var [qk, qp]) = S2
        have w2 : S2.get S1.next = some (.var [qk, qp]) := by rw [← hS2]; exact St.get_put
        have e2 : ∀ u, u < S1.next → S2.get u = S1.get u := fun u hu => by rw [← hS2]; exact var_put.2.1 u hu
        have x2 : S2.next = S1.next + 1 := by rw [← hS2]; rfl
        have hlblK := Z3w (vStr x.label)
        obtain ⟨v1, st1, v2, st2, r1, r4, r2, r5, r6, r7, r8, r9, r10⟩ := tail_key (outR hout (.inr ⟨x.label, rfl, hlab, rfl⟩) (by omega)) (by have := Z3w (vVtx x.out); simp only [List.length_append, List.length_cons]; omega) hv S2
        have hA2 : BO ⟨S2.base, st2.next, st2.toks⟩ v2 (Z1v 3 x.out x.label ++ kB (vEdg x.id)) := BO.of (by exact r6)
        generalize hS3 : ((⟨S2.base, st2.next, st2.toks⟩ : St).new (.var [.nilSl, .nilSl])).put st2.next (.var [v2, qn]) = S3
        have w3 : S3.get st2.next = some (.var [v2, qn]) := by rw [← hS3]; exact St.get_put
        have e3' : ∀ u, u < st2.next → S3.get u = (⟨S2.base, st2.next, st2.toks⟩ : St).get u := fun u hu => by rw [← hS3]; exact (var_put (A := ⟨S2.base, st2.next, st2.toks⟩)).2.1 u hu
        have e3 : ∀ u, u < S2.next → S3.get u = S2.get u := fun u hu => (e3' u (by omega)).trans (r10 u hu)
        have x3 : S3.next = st2.next + 1 := by rw [← hS3]; rfl
        obtain ⟨z1, su1, z2, su2, u1, u4, u2, u5, u6, u7, u8, u9, u10⟩ := tail_key (inR hinto (.inr ⟨x.label, rfl, hlab, rfl⟩) (by omega)) (by have := Z3w (vVtx x.into); simp only [List.length_append, List.length_cons]; omega) hv S3
        have hB2 : BO ⟨S3.base, su2.next, su2.toks⟩ z2 (Z1v 4 x.into x.label ++ kB (vEdg x.id)) := BO.of (by exact u6)
        generalize hS4 : ((⟨S3.base, su2.next, su2.toks⟩ : St).new (.var [.nilSl, .nilSl])).put su2.next (.var [z2, qm]) = S4
        have w4 : S4.get su2.next = some (.var [z2, qm]) := by rw [← hS4]; exact St.get_put
        have e4' : ∀ u, u < su2.next → S4.get u = (⟨S3.base, su2.next, su2.toks⟩ : St).get u := fun u hu => by rw [← hS4]; exact (var_put (A := ⟨S3.base, su2.next, su2.toks⟩)).2.1 u hu
        have e4 : ∀ u, u < S3.next → S4.get u = S3.get u := fun u hu => (e4' u (by omega)).trans (u10 u hu)
        have x4 : S4.next = su2.next + 1 := by rw [← hS4]; rfl
        have hq1 : BO S4 qk (Z35 (vEdg x.id)) := .inl k2
        have hq2 : BO S4 qp (Z2g x.out ++ Z2g x.into ++ Z2s x.label ++ Z20 x.props) := .inl p2
        have hq3 : BO S4 v2 (Z1v 3 x.out x.label ++ kB (vEdg x.id)) := hA2.after (by show st2.next ≤ _; omega) (fun u hu => (e4 u (by have : u < st2.next := hu; omega)).trans (e3' u hu))
        have hq4 : BO S4 qn (Z2g x.into) := .inl n2
        have hq5 : BO S4 z2 (Z1v 4 x.into x.label ++ kB (vEdg x.id)) := hB2.after (by show su2.next ≤ _; omega) (fun u hu => e4' u hu)
        have hq6 : BO S4 qm (Z2g x.out) := .inl m2
        have hb1 := build_pq hq1 hq2
        have hb2 := build_pq hq3 hq4
        have hb3 := build_pq hq5 hq6
        have hb4 := build_3 hq1 hq2 hq3 hq4 hq5 hq6
        have ho1 := ones2 hq1 hq2
        have ho2 := ones2 hq3 hq4
        have ho3 := ones2 hq5 hq6
        have hE : EntsR S4 [[qk, qp], [v2, qn], [z2, qm]] [(Z35 (vEdg x.id), Z2g x.out ++ Z2g x.into ++ Z2s x.label ++ Z20 x.props), (Z1v 3 x.out x.label ++ kB (vEdg x.id), Z2g x.into), (Z1v 4 x.into x.label ++ kB (vEdg x.id), Z2g x.out)] :=
          (((EntsR.nil S4).snoc (x := (Z35 (vEdg x.id), Z2g x.out ++ Z2g x.into ++ Z2s x.label ++ Z20 x.props)) hq1 hq2).snoc (x := (Z1v 3 x.out x.label ++ kB (vEdg x.id), Z2g x.into)) hq3 hq4).snoc (x := (Z1v 4 x.into x.label ++ kB (vEdg x.id), Z2g x.out)) hq5 hq6
        obtain ⟨src, v5, S5, a1, a2, a3, a4, a5⟩ := ea_app hE hel (by simp [idxK]) (by rw [idx_len]; simp; omega)
        have e5 : ∀ u, u < S4.next → S5.get u = S4.get u := fun u hu => a5.2.2.2 u hu (by simp [Z15])
        have y8 : st1.next ≤ st1.next := Nat.le_refl _
        have P0 : ∀ s : St, s.get 0 = S1.get 0 → s.get 0 = some (.var [.int .i64 x.id, .str x.label, .int .i64 x.out, .int .i64 x.into, p]) := fun s h => h.trans g0
        have P1 : ∀ s : St, s.get 1 = S1.get 1 → s.get 1 = some (.var [.int .i64 7, .int .i64 x.id, .str [], .nilSl]) := fun s h => h.trans g1
        have q2 : ∀ u, u < S1.next → S2.get u = S1.get u := e2
        have q2a : ∀ u, u < S1.next → (⟨S2.base, st1.next, st1.toks⟩ : St).get u = S1.get u := fun u hu => (r9 u (by omega)).trans (e2 u hu)
        have q2b : ∀ u, u < S1.next → (⟨S2.base, st2.next, st2.toks⟩ : St).get u = S1.get u := fun u hu => (r10 u (by omega)).trans (e2 u hu)
        have q3 : ∀ u, u < S1.next → S3.get u = S1.get u := fun u hu => (e3 u (by omega)).trans (e2 u hu)
        have q3a : ∀ u, u < S1.next → (⟨S3.base, su1.next, su1.toks⟩ : St).get u = S1.get u := fun u hu => (u9 u (by omega)).trans (q3 u hu)
        have q3b : ∀ u, u < S1.next → (⟨S3.base, su2.next, su2.toks⟩ : St).get u = S1.get u := fun u hu => (u10 u (by omega)).trans (q3 u hu)
        have q4 : ∀ u, u < S1.next → S4.get u = S1.get u := fun u hu => (e4 u (by omega)).trans (q3 u hu)
        have q5 : ∀ u, u < S1.next → S5.get u = S1.get u := fun u hu => (e5 u (by omega)).trans (q4 u hu)
        have A0 := Z1o (Q := fun s => s.get 0 = some (.var [.int .i64 x.id, .str x.label, .int .i64 x.out, .int .i64 x.into, p])) (a := S1) (r := [S2]) ⟨P0 _ rfl, P0 _ (q2 0 (by omega))⟩
        have A1 := Z1o (Q := fun s => s.get 1 = some (.var [.int .i64 7, .int .i64 x.id, .str [], .nilSl])) (a := S1) (r := [S2]) ⟨P1 _ rfl, P1 _ (q2 1 (by omega))⟩
        have B0 := Z1o (Q := fun s => s.get 0 = some (.var [.int .i64 x.id, .str x.label, .int .i64 x.out, .int .i64 x.into, p])) (a := S2) (r := [⟨S2.base, st1.next, st1.toks⟩, ⟨S2.base, st2.next, st2.toks⟩, ⟨S2.base, st2.next, st2.toks⟩, S3]) ⟨P0 _ (q2 0 (by omega)), P0 _ (q2a 0 (by omega)), P0 _ (q2b 0 (by omega)), P0 _ (q2b 0 (by omega)), P0 _ (q3 0 (by omega))⟩
        have B1 := Z1o (Q := fun s => s.get 1 = some (.var [.int .i64 7, .int .i64 x.id, .str [], .nilSl])) (a := S2) (r := [⟨S2.base, st1.next, st1.toks⟩, ⟨S2.base, st2.next, st2.toks⟩, ⟨S2.base, st2.next, st2.toks⟩, S3]) ⟨P1 _ (q2 1 (by omega)), P1 _ (q2a 1 (by omega)), P1 _ (q2b 1 (by omega)), P1 _ (q2b 1 (by omega)), P1 _ (q3 1 (by omega))⟩
        have C0 := Z1o (Q := fun s => s.get 0 = some (.var [.int .i64 x.id, .str x.label, .int .i64 x.out, .int .i64 x.into, p])) (a := S3) (r := [⟨S3.base, su1.next, su1.toks⟩, ⟨S3.base, su2.next, su2.toks⟩, ⟨S3.base, su2.next, su2.toks⟩, S4]) ⟨P0 _ (q3 0 (by omega)), P0 _ (q3a 0 (by omega)), P0 _ (q3b 0 (by omega)), P0 _ (q3b 0 (by omega)), P0 _ (q4 0 (by omega))⟩
        have C1 := Z1o (Q := fun s => s.get 1 = some (.var [.int .i64 7, .int .i64 x.id, .str [], .nilSl])) (a := S3) (r := [⟨S3.base, su1.next, su1.toks⟩, ⟨S3.base, su2.next, su2.toks⟩, ⟨S3.base, su2.next, su2.toks⟩, S4]) ⟨P1 _ (q3 1 (by omega)), P1 _ (q3a 1 (by omega)), P1 _ (q3b 1 (by omega)), P1 _ (q3b 1 (by omega)), P1 _ (q4 1 (by omega))⟩
        have D0 := Z1o (Q := fun s => s.get 0 = some (.var [.int .i64 x.id, .str x.label, .int .i64 x.out, .int .i64 x.into, p])) (a := S4) (r := [S5]) ⟨P0 _ (q4 0 (by omega)), P0 _ (q5 0 (by omega))⟩
        have D1 := Z1o (Q := fun s => s.get 1 = some (.var [.int .i64 7, .int .i64 x.id, .str [], .nilSl])) (a := S4) (r := [S5]) ⟨P1 _ (q4 1 (by omega)), P1 _ (q5 1 (by omega))⟩
        have D2 := Z1o (Q := fun s => s.get S1.next = some (.var [qk, qp])) (a := S4) (r := [S5]) (by
          have h : S4.get S1.next = some (.var [qk, qp]) := (e4 _ (by omega)).trans ((e3 _ (by omega)).trans w2)
          exact ⟨h, (e5 _ (by omega)).trans h⟩)
        have D3 := Z1o (Q := fun s => s.get st2.next = some (.var [v2, qn])) (a := S4) (r := [S5]) (by
          have h : S4.get st2.next = some (.var [v2, qn]) := (e4 _ (by omega)).trans w3
          exact ⟨h, (e5 _ (by omega)).trans h⟩)
        have D4 := Z1o (Q := fun s => s.get su2.next = some (.var [z2, qm])) (a := S4) (r := [S5]) ⟨w4, (e5 _ (by omega)).trans w4⟩
        obtain ⟨q, f1, f2⟩ := a4.view (by rw [List.length_append, idx_len]; simp; omega)
        refine Z24 rfl rfl ?_
        repeat' first | ((with_reducible show V _ _ _ _ _ _); first | refine V_C (mkC [16] [none] S1 [S2] (some (15, 4, 0, [.nilSl, .nilSl]))) rfl rfl ?_ | refine V_C (mkC [5, 8, 13, 15] [some 43, some 46, some 51, none] S2 [⟨S2.base, st1.next, st1.toks⟩, ⟨S2.base, st2.next, st2.toks⟩, ⟨S2.base, st2.next, st2.toks⟩, S3] (some (14, 5, 3, [.nilSl, .nilSl]))) rfl rfl ?_ | refine V_C (mkC [5, 8, 13, 15] [some 57, some 60, some 65, none] S3 [⟨S3.base, su1.next, su1.toks⟩, ⟨S3.base, su2.next, su2.toks⟩, ⟨S3.base, su2.next, su2.toks⟩, S4] (some (14, 6, 3, [.nilSl, .nilSl]))) rfl rfl ?_ | refine V_C (mkC [10] [some 76] S4 [S5] none) rfl rfl ?_ | refine Z2c rfl rfl f1 ?_ | refine V_O rfl ?_ | refine Z1e rfl rfl ?_) | ((with_reducible show VO _ _ _ _ _ _ _); first | refine Z0u rfl rfl b1 ?_ | refine Z0u rfl rfl b2 ?_ | refine Z0u rfl rfl b3 ?_ | refine Z0u rfl rfl hV ?_ | refine Z0b rfl rfl rfl rfl rfl hst ?_ | refine Z02 rfl ?_ | refine Z05 rfl ?_ | refine Z03 ?_ | refine Z10 rfl ?_) | ((with_reducible show Go.AM.VC _ _ _ _ _ _ _ _ _ _); first | refine Z42 rfl rfl rfl A1 rfl ?_ | refine Z42 rfl rfl rfl B1 rfl ?_ | refine Z42 rfl rfl rfl C1 rfl ?_ | refine Z42 rfl rfl rfl D1 rfl ?_ | refine Z42 rfl rfl rfl D2 rfl ?_ | refine Z42 rfl rfl rfl D3 rfl ?_ | refine Z42 rfl rfl rfl D4 rfl ?_ | refine C_loadV rfl rfl rfl A0 rfl ?_ | refine C_loadV rfl rfl rfl B0 rfl ?_ | refine C_loadV rfl rfl rfl C0 rfl ?_ | refine C_loadV rfl rfl rfl D0 rfl ?_ | refine C_call rfl rfl rfl rfl (fun _ => Z1a (by (repeat' (first | exact Pl.int _ _ | exact Pl.bool _ | exact Pl.str _ | exact Pl.nilSl | exact Z1d | refine Z0m ?_ ?_ | refine Pl.tuple _ ?_ | refine Pl.agg _ ?_ | refine Pl.func _ _ ?_ | assumption | refine Pl.iptr _ _ ?_ | exact Z1h | refine Z11 ?_ ?_ | refine Pl.sl _ _ ?_)); first | done | fail)) k1 ?_ | refine C_call rfl rfl rfl rfl (fun _ => Z1a (by (repeat' (first | exact Pl.int _ _ | exact Pl.bool _ | exact Pl.str _ | exact Pl.nilSl | exact Z1d | refine Z0m ?_ ?_ | refine Pl.tuple _ ?_ | refine Pl.agg _ ?_ | refine Pl.func _ _ ?_ | assumption | refine Pl.iptr _ _ ?_ | exact Z1h | refine Z11 ?_ ?_ | refine Pl.sl _ _ ?_)); first | done | fail)) o1 ?_ | refine C_call rfl rfl rfl rfl (fun _ => Z1a (by (repeat' (first | exact Pl.int _ _ | exact Pl.bool _ | exact Pl.str _ | exact Pl.nilSl | exact Z1d | refine Z0m ?_ ?_ | refine Pl.tuple _ ?_ | refine Pl.agg _ ?_ | refine Pl.func _ _ ?_ | assumption | refine Pl.iptr _ _ ?_ | exact Z1h | refine Z11 ?_ ?_ | refine Pl.sl _ _ ?_)); first | done | fail)) t1 ?_ | refine C_call rfl rfl rfl rfl (fun _ => Z1a (by (repeat' (first | exact Pl.int _ _ | exact Pl.bool _ | exact Pl.str _ | exact Pl.nilSl | exact Z1d | refine Z0m ?_ ?_ | refine Pl.tuple _ ?_ | refine Pl.agg _ ?_ | refine Pl.func _ _ ?_ | assumption | refine Pl.iptr _ _ ?_ | exact Z1h | refine Z11 ?_ ?_ | refine Pl.sl _ _ ?_)); first | done | fail)) p1 ?_ | refine C_call rfl rfl rfl rfl (fun _ => Z1a (by (repeat' (first | exact Pl.int _ _ | exact Pl.bool _ | exact Pl.str _ | exact Pl.nilSl | exact Z1d | refine Z0m ?_ ?_ | refine Pl.tuple _ ?_ | refine Pl.agg _ ?_ | refine Pl.func _ _ ?_ | assumption | refine Pl.iptr _ _ ?_ | exact Z1h | refine Z11 ?_ ?_ | refine Pl.sl _ _ ?_)); first | done | fail)) i1 ?_ | refine C_call rfl rfl rfl rfl (fun _ => Z1a (by (repeat' (first | exact Pl.int _ _ | exact Pl.bool _ | exact Pl.str _ | exact Pl.nilSl | exact Z1d | refine Z0m ?_ ?_ | refine Pl.tuple _ ?_ | refine Pl.agg _ ?_ | refine Pl.func _ _ ?_ | assumption | refine Pl.iptr _ _ ?_ | exact Z1h | refine Z11 ?_ ?_ | refine Pl.sl _ _ ?_)); first | done | fail)) n1 ?_ | refine C_call rfl rfl rfl rfl (fun _ => Z1a (by (repeat' (first | exact Pl.int _ _ | exact Pl.bool _ | exact Pl.str _ | exact Pl.nilSl | exact Z1d | refine Z0m ?_ ?_ | refine Pl.tuple _ ?_ | refine Pl.agg _ ?_ | refine Pl.func _ _ ?_ | assumption | refine Pl.iptr _ _ ?_ | exact Z1h | refine Z11 ?_ ?_ | refine Pl.sl _ _ ?_)); first | done | fail)) m1 ?_ | refine Z3y rfl rfl rfl rfl rfl rfl rfl rfl r1 r4 rfl ?_ | refine Z3y rfl rfl rfl rfl rfl rfl rfl rfl r2 r5 rfl ?_ | refine Z3y rfl rfl rfl rfl rfl rfl rfl rfl u1 u4 rfl ?_ | refine Z3y rfl rfl rfl rfl rfl rfl rfl rfl u2 u5 rfl ?_ | refine Z3n rfl rfl (fun _ => hb1 _ _ _ _ rfl rfl) ?_ | refine C_move rfl rfl rfl rfl rfl rfl rfl (hb2 _ _ _ _ rfl rfl) ?_ | refine C_move rfl rfl rfl rfl rfl rfl rfl (hb3 _ _ _ _ rfl rfl) ?_ | refine Z3n rfl rfl (fun _ => hb4 _ _ _ _ _ rfl rfl rfl) ?_ | refine C_alloc rfl rfl rfl rfl ?_ | refine C_store (q := .agg [qk, qp]) rfl rfl rfl rfl rfl hS2.symm rfl rfl ho1 rfl rfl (by decide) ?_ | refine C_store (q := .agg [v2, qn]) rfl rfl rfl rfl rfl hS3.symm rfl rfl ho2 rfl rfl (by decide) ?_ | refine C_store (q := .agg [z2, qm]) rfl rfl rfl rfl rfl hS4.symm rfl rfl ho3 rfl rfl (by decide) ?_ | refine C_append rfl rfl rfl rfl rfl rfl rfl rfl rfl a1 a2 (by decide) (by decide) a3 ?_ | refine Z3n rfl rfl (fun _ => rfl) ?_ | refine C_nil rfl rfl ?_)
        exact f2
      · have hvK : lnkK x = [] := by simp [lnkK, h3]
        rw [hvK]
        have c1 : (!idB x.id) = false := by simp [h1]
        have c2 : (!idB x.out) = false := by simp [h2]
        have c3 : (!idB x.into) = true := by simp [h3]
        rw [c1] at b1
        rw [c2] at b2
        rw [c3] at b3
        refine Z24 rfl rfl ?_
        repeat' first | ((with_reducible show V _ _ _ _ _ _); first | refine Z2c rfl rfl (Pl.view .nilSl) ?_ | refine V_O rfl ?_ | refine Z16 rfl rfl ?_) | ((with_reducible show VO _ _ _ _ _ _ _); first | refine Z0u rfl rfl b1 ?_ | refine Z0u rfl rfl b2 ?_ | refine Z0u rfl rfl b3 ?_ | refine Z02 rfl ?_ | refine Z05 rfl ?_ | refine Z03 ?_ | refine Z10 rfl ?_)
        exact .inl ⟨rfl, rfl⟩
    · have hvK : lnkK x = [] := by simp [lnkK, h2]
      rw [hvK]
      have c1 : (!idB x.id) = false := by simp [h1]
      have c2 : (!idB x.out) = true := by simp [h2]
      rw [c1] at b1
      rw [c2] at b2
      refine Z24 rfl rfl ?_
      repeat' first | ((with_reducible show V _ _ _ _ _ _); first | refine Z2c rfl rfl (Pl.view .nilSl) ?_ | refine V_O rfl ?_ | refine Z16 rfl rfl ?_) | ((with_reducible show VO _ _ _ _ _ _ _); first | refine Z0u rfl rfl b1 ?_ | refine Z0u rfl rfl b2 ?_ | refine Z02 rfl ?_ | refine Z05 rfl ?_ | refine Z03 ?_ | refine Z10 rfl ?_ | refine Z1j rfl rfl ?_)
      exact .inl ⟨rfl, rfl⟩
  · have hvK : lnkK x = [] := by simp [lnkK, h1]
    rw [hvK]
    have c1 : (!idB x.id) = true := by simp [h1]
    rw [c1] at b1
    refine Z24 rfl rfl ?_
    repeat' first | ((with_reducible show V _ _ _ _ _ _); first | refine Z2c rfl rfl (Pl.view .nilSl) ?_ | refine V_O rfl ?_ | refine Z16 rfl rfl ?_) | ((with_reducible show VO _ _ _ _ _ _ _); first | refine Z0u rfl rfl b1 ?_ | refine Z02 rfl ?_ | refine Z05 rfl ?_ | refine Z03 ?_ | refine Z1j rfl rfl ?_)
    exact .inl ⟨rfl, rfl⟩
end Go.Proofs.YtgdjnlopdpjnaaaGreatDoor

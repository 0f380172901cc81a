/- keys.Edge. · keys.Edge, as a call. · keys: readers (skip, done, num, key, name). -/
import Derived.Test.YtgdjnlopdpjnaaaDoorKeyCToKeyI
import Derived.Test.YtgdjnlopdpjnaaaDoorCodLToReadC
set_option linter.unusedVariables false
set_option linter.unusedSimpArgs false
namespace Go.Proofs.YtgdjnlopdpjnaaaDoor
open Go Go.AM Go.RowKit
theorem tail_key {f : Nat} {args : List PV} {t : List UInt8} (hm : MakesB T f args t) (ht : t.length ≤ 10000) {v : Val} {cs : List PV} (hv : VC v cs) (S : St) : ∃ v1 st1 v2 st2, T.R (.raw f args ⟨S.next, S.next, S.toks⟩ v1 st1) ∧ st1.base = S.next ∧ T.R (.raw Zbu [v1, .sl [cs] true] ⟨st1.next, st1.next, st1.toks⟩ v2 st2) ∧ st2.base = st1.next ∧ AB st2 v2 (t ++ kB v) ∧
    S.next ≤ st1.next ∧ S.next ≤ st2.next ∧ (∀ u, u < S.next → st1.get u = S.get u) ∧ (∀ u, u < S.next → st2.get u = S.get u) := by
  obtain ⟨v1, st1, h1, h2, h3⟩ := hm ⟨S.next, S.next, S.toks⟩ rfl
  have hk := keyK (Z92 hv true)
  rw [List.flatMap_cons, List.flatMap_nil, List.append_nil] at hk
  have hkl := Z6f v
  obtain ⟨v2, st2, k1, k2, k3⟩ := hk ⟨st1.next, st1.next, st1.toks⟩ v1 _ rfl h2 (by omega)
  have gB : Grow S .nilSl ⟨S.base, st1.next, st1.toks⟩ v1 := Grow.re (b := 0) h3
  have gC : Grow S .nilSl ⟨S.base, st2.next, st2.toks⟩ v2 := gB.trans (Grow.re (st := ⟨S.base, st1.next, st1.toks⟩) (b := 0) k3)
  exact ⟨v1, st1, v2, st2, h1, h3.1, k1, k3.1, k2, gB.2.1, gC.2.1, fun u hu => gB.2.2.2 u hu (by simp [Z0n]), fun u hu => gC.2.2.2 u hu (by simp [Z0n])⟩
theorem BO.cells {st : St} {p : PV} {s : List UInt8} (h : BO st p s) : p = .nilSl ∨ (∃ xs f, p = .sl xs f) ∨ ∃ t g o n f, p = .osl t g o n f := by
  rcases h with h | ⟨rfl, _⟩ | ⟨t, g, rfl, _⟩
  · cases h
    · exact .inl rfl
    · exact .inr (.inl ⟨_, _, rfl⟩)
  · exact .inl rfl
  · exact .inr (.inr ⟨_, _, _, _, _, rfl⟩)
theorem Ze3 {p q : PV} {s t : List UInt8} {st st' : St} (hp : BO st p s) (hq : BO st' q t) : ∀ (look : Nat → Option Tok) (e : EC) (i j : Nat), e.get i = some p → e.get j = some q → Zg look e (.build [.nilSl, .nilSl] [(0, (1, .t i)), (1, (1, .t j))]) = some (.agg [p, q]) := fun look e i j hi hj => by
  rcases hp.cells with rfl | ⟨xs, f, rfl⟩ | ⟨t, g, o, n, f, rfl⟩ <;> rcases hq.cells with rfl | ⟨xs', f', rfl⟩ | ⟨t', g', o', n', f', rfl⟩ <;> (simp only [Zg, Z3b, Zbj, Opd.get, hi, hj]; rfl)
theorem build_3 {p q p' q' p'' q'' : PV} {s t s' t' s'' t'' : List UInt8} {st : St} (hp : BO st p s) (hq : BO st q t) (hp' : BO st p' s') (hq' : BO st q' t') (hp'' : BO st p'' s'') (hq'' : BO st q'' t'') : ∀ (look : Nat → Option Tok) (e : EC) (i j k : Nat), e.get i = some (.agg [p, q]) → e.get j = some (.agg [p', q']) → e.get k = some (.agg [p'', q'']) → Zg look e (.buildSl 2 [[.nilSl, .nilSl], [.nilSl, .nilSl], [.nilSl, .nilSl]] [(0, .t i), (1, .t j), (2, .t k)]) = some (.sl [[p, q], [p', q'], [p'', q'']] true) := fun look e i j k hi hj hk => by
  have h1 := hp.one
  have h2 := hq.one
  have h3 := hp'.one
  have h4 := hq'.one
  have h5 := hp''.one
  have h6 := hq''.one
  simp only [Zg, Z3b, Zbj, Opd.get, hi, hj, hk]
  simp [Z1q, Z0v, PV.cells, PV.isJunk, h1, h2, h3, h4, h5, h6]
theorem EntsR.append {st : St} {es xs : List (List PV)} {l m : List Ent} (h : EntsR st es l) (h2 : EntsR st xs m) : EntsR st (es ++ xs) (l ++ m) :=
  ⟨by simp [h.1, h2.1], fun j cs y hj hy => by
    rcases Nat.lt_or_ge j l.length with hlt | hge
    · rw [List.getElem?_append_left (by rw [h.1]; exact hlt)] at hj
      rw [List.getElem?_append_left hlt] at hy
      exact h.2 j cs y hj hy
    · rw [List.getElem?_append_right (by rw [h.1]; exact hge), h.1] at hj
      rw [List.getElem?_append_right hge] at hy
      exact h2.2 _ cs y hj hy⟩
theorem EntsR.okEls {st : St} {es : List (List PV)} {l : List Ent} (h : EntsR st es l) : okEls 2 es = true := by
  unfold Go.AM.okEls
  rw [List.all_eq_true]
  intro cs hcs
  obtain ⟨j, hj⟩ := List.getElem?_of_mem hcs
  have hlt : j < l.length := by rw [← h.1]; exact (List.getElem?_eq_some_iff.1 hj).1
  obtain ⟨p, q, rfl, b1, b2⟩ := h.2 j cs l[j] hj (List.getElem?_eq_getElem hlt)
  have h1 := b1.one
  have h2 := b2.one
  simp [h1, h2]
theorem ents_of_lr {st : St} {q : PV} {m : List Ent} (h : LR EnC q m) : ∃ xs, Z56 st q = some xs ∧ EntsR st xs m := by
  rcases h with ⟨rfl, rfl⟩ | ⟨xs, f, rfl, _, h1, h2⟩
  · exact ⟨[], rfl, .nil _⟩
  · refine ⟨xs, rfl, h1, fun j cs x hj hx => ?_⟩
    obtain ⟨p, q, e, b1, b2⟩ := h2 j x cs hx hj
    exact ⟨p, q, e, .inl b1, .inl b2⟩
theorem ea_app {st : St} {es : List (List PV)} {l m : List Ent} (h : EntsR st es l) {q : PV} (hq : LR EnC q m) (hne : m ≠ []) (hl : l.length + m.length ≤ 1000000000000) : ∃ src v' st', Z56 st q = some src ∧ okEls 2 src = true ∧ Z0b st 2 48 (.sl es true) src = some (v', st') ∧ EA st' v' (l ++ m) ∧ Grow st .nilSl st' v' := by
  obtain ⟨xs, h1, h2⟩ := ents_of_lr (st := st) hq
  have hs := h.append h2
  have hxl := h2.1
  have hml : 0 < m.length := List.length_pos_iff.2 hne
  have hxe : xs ≠ [] := by intro h0; rw [h0] at hxl; simp at hxl; omega
  refine ⟨xs, _, _, h1, h2.okEls, Z6y hxe (by rw [h.1, hxl]; simp only [Zs]; omega) h.all, ⟨_, hs.keep (by simp [St.new]) (fun u g cs hu _ => St.get_new_old hu), .inr (.inr ⟨st.next, 0, by simp, St.get_new, by simp [St.new]⟩)⟩, rfl, by simp [St.new], .inr ⟨st.next, rfl, Nat.le_refl _⟩, fun u hu _ => St.get_new_old hu⟩
theorem idx_len (elem : Val) (s : List UInt8) (l : List Prp) : (idxK elem s l).length = l.length + 1 := by simp [idxK]
theorem idB_true {n : Int} (h : idB n = true) : I64 n := by
  simp [idB] at h
  unfold I64
  omega
theorem var_put {A : St} {z cs : List PV} : ((A.new (.var z)).put A.next (.var cs)).get A.next = some (.var cs) ∧ (∀ u, u < A.next → ((A.new (.var z)).put A.next (.var cs)).get u = A.get u) ∧ ((A.new (.var z)).put A.next (.var cs)).next = A.next + 1 :=
  ⟨St.get_put, fun u hu => by rw [St.get_put_old (by omega)]; exact St.get_new_old hu, rfl⟩
set_option maxHeartbeats 4000000 in
theorem Zgt {x : Vtx} {cs : List PV} (hx : VtC x cs) (hpm : ∀ y ∈ x.props, (Zei y.val).length ≤ 100000000000000) (hlen : (Z49 x.label).length + (Z2o x.props).length ≤ 100000000000) (hlb : x.label.length ≤ 1000000000000) (hll : x.props.length ≤ 100000000000) : ∃ q, T.R (.call n_keys_Vertex [.agg cs] q) ∧ LR EnC q (vtxK x) := by
  obtain ⟨hid, hlab, p, rfl, hp⟩ := hx
  have hpp := hp.pl (fun a _ cs h => h.pl)
  obtain ⟨e1, e2, e3⟩ := hp.len
  have hbad := Zaj (n := x.id)
  by_cases hi : idB x.id = true
  · have hvK : vtxK x = (Z41 (Z6l x.id), Z49 x.label ++ Z2o x.props) :: idxK (Z6l x.id) x.label x.props := by simp [vtxK, hi]
    rw [hvK]
    have hb : (!idB x.id) = false := by simp [hi]
    rw [hb] at hbad
    have hv := vc_vtx hid
    obtain ⟨qk, k1, k2⟩ := (keyOneR hv).call
    obtain ⟨qt, t1, t2⟩ := Zcz (.nil) (s := []) (t := x.label) (by simp only [List.length_nil]; omega) hlab
    rw [List.nil_append] at t2
    obtain ⟨qp, p1, p2⟩ := Zbl t2 hp (by omega)
    obtain ⟨qi, i1, i2⟩ := Zea hv hlab hp hpm hll
    have hel : LR EnC qi (idxK (Z6l x.id) x.label x.props) := i2
    have hpk := k2.pl
    have hpt := t2.pl
    have hpq := p2.pl
    have hpi := hel.pl (fun a _ cs h => h.pl)
    have hV := Z9i x.id
    have hpx := hpp
    generalize hS : ((emptySt.new (.var [.int .i64 x.id, .str x.label, p])).new (.var [.int .i64 0, .int .i64 0, .str [], .nilSl])).put 1 (.var [.int .i64 6, .int .i64 x.id, .str [], .nilSl]) = S1
    have g0 : S1.get 0 = some (.var [.int .i64 x.id, .str x.label, p]) := by rw [← hS]; rfl
    have g1 : S1.get 1 = some (.var [.int .i64 6, .int .i64 x.id, .str [], .nilSl]) := by rw [← hS]; rfl
    have n0 : S1.next = 2 := by rw [← hS]; rfl
    have hst : storeAt ((emptySt.new (.var [.int .i64 x.id, .str x.label, p])).new (.var [.int .i64 0, .int .i64 0, .str [], .nilSl])) (.ptr 1 0) (.agg [.int .i64 6, .int .i64 x.id, .str [], .nilSl]) = some S1 := by rw [← hS]; rfl
    generalize hS2 : (S1.new (.var [.nilSl, .nilSl])).put S1.next (.var [qk, qp]) = S2
    have h22 : S2.get S1.next = some (.var [qk, qp]) := by rw [← hS2]; exact St.get_put
    have h20 : S2.get 0 = some (.var [.int .i64 x.id, .str x.label, p]) := by rw [← hS2]; exact (var_put.2.1 0 (by omega)).trans g0
    have h21 : S2.get 1 = some (.var [.int .i64 6, .int .i64 x.id, .str [], .nilSl]) := by rw [← hS2]; exact (var_put.2.1 1 (by omega)).trans g1
    have n2 : S2.next = 3 := by rw [← hS2]; show S1.next + 1 = 3; omega
    have hq1 : BO S1 qk (Z41 (Z6l x.id)) := .inl k2
    have hq2 : BO S1 qp (Z49 x.label ++ Z2o x.props) := .inl p2
    have hb1 := Ze3 hq1 hq2
    have ho : (PV.agg [qk, qp]).cells.all PV.one = true := by
      have h1 := hq1.one
      have h2 := hq2.one
      simp [PV.cells, h1, h2]
    have hE : EntsR S2 [[qk, qp]] [(Z41 (Z6l x.id), Z49 x.label ++ Z2o x.props)] := (EntsR.nil S2).snoc (p := qk) (q := qp) (x := (Z41 (Z6l x.id), Z49 x.label ++ Z2o x.props)) (.inl k2) (.inl p2)
    obtain ⟨src, v3, S3, a1, a2, a3, a4, a5⟩ := ea_app hE hel (by simp [idxK]) (by rw [idx_len]; simp; omega)
    have o3 : ∀ u, u < 3 → S3.get u = S2.get u := fun u hu => a5.2.2.2 u (by omega) (by simp [Z0n])
    have ha0 := Z1b (Q := fun s => s.get 0 = some (.var [.int .i64 x.id, .str x.label, p])) (a := S1) (r := [S2]) ⟨g0, h20⟩
    have ha1 := Z1b (Q := fun s => s.get 1 = some (.var [.int .i64 6, .int .i64 x.id, .str [], .nilSl])) (a := S1) (r := [S2]) ⟨g1, h21⟩
    have hb0 := Z1b (Q := fun s => s.get 0 = some (.var [.int .i64 x.id, .str x.label, p])) (a := S2) (r := [S3]) ⟨h20, (o3 0 (by omega)).trans h20⟩
    have hb1' := Z1b (Q := fun s => s.get 1 = some (.var [.int .i64 6, .int .i64 x.id, .str [], .nilSl])) (a := S2) (r := [S3]) ⟨h21, (o3 1 (by omega)).trans h21⟩
    have hb2 := Z1b (Q := fun s => s.get S1.next = some (.var [qk, qp])) (a := S2) (r := [S3]) ⟨h22, (o3 S1.next (by omega)).trans h22⟩
    have hbs : ∀ (look : Nat → Option Tok) (e : EC), e.get 20 = some (.agg [qk, qp]) → Zg look e (.buildSl 2 [[.nilSl, .nilSl]] [(0, .t 20)]) = some (.sl [[qk, qp]] true) := fun look e he => by
      have h1 := hq1.one
      have h2 := hq2.one
      simp only [Zg, Z3b, Zbj, Opd.get, he]
      simp [Z1q, Z0v, PV.cells, PV.isJunk, h1, h2]
    obtain ⟨q, w1, w2⟩ := a4.view (by rw [List.length_append, idx_len]; simp; omega)
    refine Z6w rfl rfl ?_
    repeat' first | ((with_reducible show V _ _ _ _ _ _); first | refine V_C (mkC [10] [none] S1 [S2] (some (9, 4, 0, [.nilSl, .nilSl]))) rfl rfl ?_ | refine V_C (mkC [8] [some 28] S2 [S3] none) rfl rfl ?_ | refine Z5z rfl rfl w1 ?_ | refine Z3 rfl ?_ | refine Ze rfl rfl ?_) | ((with_reducible show VO _ _ _ _ _ _ _); first | refine Z8 rfl rfl hbad ?_ | refine Z8 rfl rfl hV ?_ | refine Zp rfl rfl rfl rfl rfl hst ?_ | refine Z0 rfl ?_ | refine Z9 rfl ?_ | refine Z4 ?_) | ((with_reducible show Go.AM.VC _ _ _ _ _ _ _ _ _ _); first | refine Z43 rfl rfl rfl ha1 rfl ?_ | refine Z43 rfl rfl rfl hb1' rfl ?_ | refine Z43 rfl rfl rfl hb2 rfl ?_ | refine Z60 rfl rfl rfl ha0 rfl ?_ | refine Z60 rfl rfl rfl hb0 rfl ?_ | refine Z7a rfl rfl rfl rfl (fun _ => Z17) k1 ?_ | refine Z7a rfl rfl rfl rfl (fun _ => Z17) t1 ?_ | refine Z7a rfl rfl rfl rfl (fun _ => Z17) p1 ?_ | refine Z7a rfl rfl rfl rfl (fun _ => Z17) i1 ?_ | refine Z88 rfl rfl (fun _ => hb1 _ _ _ _ rfl rfl) ?_ | refine Z88 rfl rfl (fun _ => hbs _ _ rfl) ?_ | refine C_alloc rfl rfl rfl rfl ?_ | refine C_store (q := .agg [qk, qp]) rfl rfl rfl rfl rfl hS2.symm rfl rfl ho rfl rfl (by decide) ?_ | refine Ze5 rfl rfl rfl rfl rfl rfl rfl rfl rfl a1 a2 (by decide) (by decide) a3 ?_ | refine Z88 rfl rfl (fun _ => rfl) ?_ | refine C_nil rfl rfl ?_)
    exact w2
  · have hvK : vtxK x = [] := by simp [vtxK, hi]
    rw [hvK]
    have hb : (!idB x.id) = true := by simp [hi]
    rw [hb] at hbad
    refine Z6w rfl rfl ?_
    repeat' first | ((with_reducible show V _ _ _ _ _ _); first | refine Z5z rfl rfl (Pl.view .nilSl) ?_ | refine Z3 rfl ?_ | refine Zb rfl rfl ?_) | ((with_reducible show VO _ _ _ _ _ _ _); first | refine Z8 rfl rfl hbad ?_ | refine Z0 rfl ?_ | refine Z9 rfl ?_ | refine Z4 ?_)
    exact .inl ⟨rfl, rfl⟩
theorem BO.after {st st' : St} {p : PV} {s : List UInt8} (h : BO st p s) (hn : st.next ≤ st'.next) (hk : ∀ u, u < st.next → st'.get u = st.get u) : BO st' p s := h.keep hn (fun u g hu _ => hk u hu)
theorem ones2 {st : St} {p q : PV} {s t : List UInt8} (hp : BO st p s) (hq : BO st q t) : (PV.agg [p, q]).cells.all PV.one = true := by
  have h1 := hp.one
  have h2 := hq.one
  simp [PV.cells, h1, h2]
set_option maxHeartbeats 8000000 in
theorem run_Edge {x : Lnk} {cs : List PV} (hx : LkC x cs) (hpm : ∀ y ∈ x.props, (Zei y.val).length ≤ 100000000000000) (hlen : (Z49 x.label).length + (Z2o x.props).length ≤ 10000000000) (hlb : x.label.length ≤ 1000000000000) (hll : x.props.length ≤ 100000000000) : ∃ q, T.R (.call Zey [.agg cs] q) ∧ LR EnC q (Zh2 x) := by
  obtain ⟨hid, hlab, hout, hinto, p, rfl, hp⟩ := hx
  have hpp := hp.pl (fun a _ cs h => h.pl)
  have b1 := Zaj (n := x.id)
  have b2 := Zaj (n := x.out)
  have b3 := Zaj (n := x.into)
  by_cases h1 : idB x.id = true
  · by_cases h2 : idB x.out = true
    · by_cases h3 : idB x.into = true
      · have hvK : Zh2 x = (Z41 (Z61 x.id), Z4k x.out ++ Z4k x.into ++ Z49 x.label ++ Z2o x.props) :: (Z2k 3 x.out x.label ++ kB (Z61 x.id), Z4k x.into) :: (Z2k 4 x.into x.label ++ kB (Z61 x.id), Z4k x.out) :: idxK (Z61 x.id) x.label x.props := by simp [Zh2, h1, h2, h3]
        rw [hvK]
        have c1 : (!idB x.id) = false := by simp [h1]
        have c2 : (!idB x.out) = false := by simp [h2]
        have c3 : (!idB x.into) = false := by simp [h3]
        rw [c1] at b1
        rw [c2] at b2
        rw [c3] at b3
        have hv := vc_edg hid
        obtain ⟨qk, k1, k2⟩ := (keyOneR hv).call
        obtain ⟨qo, o1, o2⟩ := call_put2 hout hinto true
        have hl1 : (Z4k x.out).length ≤ 10 := Z2h _ _
        have hl2 : (Z4k x.into).length ≤ 10 := Z2h _ _
        obtain ⟨qt, t1, t2⟩ := Zcz o2 (t := x.label) (by simp only [List.length_append]; omega) hlab
        obtain ⟨qp, p1, p2⟩ := Zbl t2 hp (by simp only [List.length_append]; omega)
        obtain ⟨qi, i1, i2⟩ := Zea hv hlab hp hpm hll
        have hel : LR EnC qi (idxK (Z61 x.id) x.label x.props) := i2
        obtain ⟨qn, n1, n2⟩ := call_put1 hinto true
        obtain ⟨qm, m1, m2⟩ := call_put1 hout true
        have hpk := k2.pl
        have hpo := o2.pl
        have hpt := t2.pl
        have hpq := p2.pl
        have hpn := n2.pl
        have hpm2 := m2.pl
        have hpi := hel.pl (fun a _ cs h => h.pl)
        have hV := run_VEdge x.id
        generalize hS : ((emptySt.new (.var [.int .i64 x.id, .str x.label, .int .i64 x.out, .int .i64 x.into, p])).new (.var [.int .i64 0, .int .i64 0, .str [], .nilSl])).put 1 (.var [.int .i64 7, .int .i64 x.id, .str [], .nilSl]) = S1
        have g0 : S1.get 0 = some (.var [.int .i64 x.id, .str x.label, .int .i64 x.out, .int .i64 x.into, p]) := by rw [← hS]; rfl
        have g1 : S1.get 1 = some (.var [.int .i64 7, .int .i64 x.id, .str [], .nilSl]) := by rw [← hS]; rfl
        have n0 : S1.next = 2 := by rw [← hS]; rfl
        have hst : storeAt ((emptySt.new (.var [.int .i64 x.id, .str x.label, .int .i64 x.out, .int .i64 x.into, p])).new (.var [.int .i64 0, .int .i64 0, .str [], .nilSl])) (.ptr 1 0) (.agg [.int .i64 7, .int .i64 x.id, .str [], .nilSl]) = some S1 := by rw [← hS]; rfl
        generalize hS2 : (S1.new (.var [.nilSl, .nilSl])).put S1.next (.var [qk, qp]) = S2
        have w2 : S2.get S1.next = some (.var [qk, qp]) := by rw [← hS2]; exact St.get_put
        have e2 : ∀ u, u < S1.next → S2.get u = S1.get u := fun u hu => by rw [← hS2]; exact var_put.2.1 u hu
        have x2 : S2.next = S1.next + 1 := by rw [← hS2]; rfl
        have hlblK := Z6f (vStr x.label)
        obtain ⟨v1, st1, v2, st2, r1, r4, r2, r5, r6, r7, r8, r9, r10⟩ := tail_key (outR hout (.inr ⟨x.label, rfl, hlab, rfl⟩) (by omega)) (by have := Z6f (Z6l x.out); simp only [List.length_append, List.length_cons]; omega) hv S2
        have hA2 : BO ⟨S2.base, st2.next, st2.toks⟩ v2 (Z2k 3 x.out x.label ++ kB (Z61 x.id)) := BO.of (by exact r6)
        generalize hS3 : ((⟨S2.base, st2.next, st2.toks⟩ : St).new (.var [.nilSl, .nilSl])).put st2.next (.var [v2, qn]) = S3
        have w3 : S3.get st2.next = some (.var [v2, qn]) := by rw [← hS3]; exact St.get_put
        have e3' : ∀ u, u < st2.next → S3.get u = (⟨S2.base, st2.next, st2.toks⟩ : St).get u := fun u hu => by rw [← hS3]; exact (var_put (A := ⟨S2.base, st2.next, st2.toks⟩)).2.1 u hu
        have e3 : ∀ u, u < S2.next → S3.get u = S2.get u := fun u hu => (e3' u (by omega)).trans (r10 u hu)
        have x3 : S3.next = st2.next + 1 := by rw [← hS3]; rfl
        obtain ⟨z1, su1, z2, su2, u1, u4, u2, u5, u6, u7, u8, u9, u10⟩ := tail_key (inR hinto (.inr ⟨x.label, rfl, hlab, rfl⟩) (by omega)) (by have := Z6f (Z6l x.into); simp only [List.length_append, List.length_cons]; omega) hv S3
        have hB2 : BO ⟨S3.base, su2.next, su2.toks⟩ z2 (Z2k 4 x.into x.label ++ kB (Z61 x.id)) := BO.of (by exact u6)
        generalize hS4 : ((⟨S3.base, su2.next, su2.toks⟩ : St).new (.var [.nilSl, .nilSl])).put su2.next (.var [z2, qm]) = S4
        have w4 : S4.get su2.next = some (.var [z2, qm]) := by rw [← hS4]; exact St.get_put
        have e4' : ∀ u, u < su2.next → S4.get u = (⟨S3.base, su2.next, su2.toks⟩ : St).get u := fun u hu => by rw [← hS4]; exact (var_put (A := ⟨S3.base, su2.next, su2.toks⟩)).2.1 u hu
        have e4 : ∀ u, u < S3.next → S4.get u = S3.get u := fun u hu => (e4' u (by omega)).trans (u10 u hu)
        have x4 : S4.next = su2.next + 1 := by rw [← hS4]; rfl
        have hq1 : BO S4 qk (Z41 (Z61 x.id)) := .inl k2
        have hq2 : BO S4 qp (Z4k x.out ++ Z4k x.into ++ Z49 x.label ++ Z2o x.props) := .inl p2
        have hq3 : BO S4 v2 (Z2k 3 x.out x.label ++ kB (Z61 x.id)) := hA2.after (by show st2.next ≤ _; omega) (fun u hu => (e4 u (by have : u < st2.next := hu; omega)).trans (e3' u hu))
        have hq4 : BO S4 qn (Z4k x.into) := .inl n2
        have hq5 : BO S4 z2 (Z2k 4 x.into x.label ++ kB (Z61 x.id)) := hB2.after (by show su2.next ≤ _; omega) (fun u hu => e4' u hu)
        have hq6 : BO S4 qm (Z4k x.out) := .inl m2
        have hb1 := Ze3 hq1 hq2
        have hb2 := Ze3 hq3 hq4
        have hb3 := Ze3 hq5 hq6
        have hb4 := build_3 hq1 hq2 hq3 hq4 hq5 hq6
        have ho1 := ones2 hq1 hq2
        have ho2 := ones2 hq3 hq4
        have ho3 := ones2 hq5 hq6
        have hE : EntsR S4 [[qk, qp], [v2, qn], [z2, qm]] [(Z41 (Z61 x.id), Z4k x.out ++ Z4k x.into ++ Z49 x.label ++ Z2o x.props), (Z2k 3 x.out x.label ++ kB (Z61 x.id), Z4k x.into), (Z2k 4 x.into x.label ++ kB (Z61 x.id), Z4k x.out)] :=
          (((EntsR.nil S4).snoc (x := (Z41 (Z61 x.id), Z4k x.out ++ Z4k x.into ++ Z49 x.label ++ Z2o x.props)) hq1 hq2).snoc (x := (Z2k 3 x.out x.label ++ kB (Z61 x.id), Z4k x.into)) hq3 hq4).snoc (x := (Z2k 4 x.into x.label ++ kB (Z61 x.id), Z4k x.out)) hq5 hq6
        obtain ⟨src, v5, S5, a1, a2, a3, a4, a5⟩ := ea_app hE hel (by simp [idxK]) (by rw [idx_len]; simp; omega)
        have e5 : ∀ u, u < S4.next → S5.get u = S4.get u := fun u hu => a5.2.2.2 u hu (by simp [Z0n])
        have y8 : st1.next ≤ st1.next := Nat.le_refl _
        have P0 : ∀ s : St, s.get 0 = S1.get 0 → s.get 0 = some (.var [.int .i64 x.id, .str x.label, .int .i64 x.out, .int .i64 x.into, p]) := fun s h => h.trans g0
        have P1 : ∀ s : St, s.get 1 = S1.get 1 → s.get 1 = some (.var [.int .i64 7, .int .i64 x.id, .str [], .nilSl]) := fun s h => h.trans g1
        have q2 : ∀ u, u < S1.next → S2.get u = S1.get u := e2
        have q2a : ∀ u, u < S1.next → (⟨S2.base, st1.next, st1.toks⟩ : St).get u = S1.get u := fun u hu => (r9 u (by omega)).trans (e2 u hu)
        have q2b : ∀ u, u < S1.next → (⟨S2.base, st2.next, st2.toks⟩ : St).get u = S1.get u := fun u hu => (r10 u (by omega)).trans (e2 u hu)
        have q3 : ∀ u, u < S1.next → S3.get u = S1.get u := fun u hu => (e3 u (by omega)).trans (e2 u hu)
        have q3a : ∀ u, u < S1.next → (⟨S3.base, su1.next, su1.toks⟩ : St).get u = S1.get u := fun u hu => (u9 u (by omega)).trans (q3 u hu)
        have q3b : ∀ u, u < S1.next → (⟨S3.base, su2.next, su2.toks⟩ : St).get u = S1.get u := fun u hu => (u10 u (by omega)).trans (q3 u hu)
        have q4 : ∀ u, u < S1.next → S4.get u = S1.get u := fun u hu => (e4 u (by omega)).trans (q3 u hu)
        have q5 : ∀ u, u < S1.next → S5.get u = S1.get u := fun u hu => (e5 u (by omega)).trans (q4 u hu)
        have A0 := Z1b (Q := fun s => s.get 0 = some (.var [.int .i64 x.id, .str x.label, .int .i64 x.out, .int .i64 x.into, p])) (a := S1) (r := [S2]) ⟨P0 _ rfl, P0 _ (q2 0 (by omega))⟩
        have A1 := Z1b (Q := fun s => s.get 1 = some (.var [.int .i64 7, .int .i64 x.id, .str [], .nilSl])) (a := S1) (r := [S2]) ⟨P1 _ rfl, P1 _ (q2 1 (by omega))⟩
        have B0 := Z1b (Q := fun s => s.get 0 = some (.var [.int .i64 x.id, .str x.label, .int .i64 x.out, .int .i64 x.into, p])) (a := S2) (r := [⟨S2.base, st1.next, st1.toks⟩, ⟨S2.base, st2.next, st2.toks⟩, ⟨S2.base, st2.next, st2.toks⟩, S3]) ⟨P0 _ (q2 0 (by omega)), P0 _ (q2a 0 (by omega)), P0 _ (q2b 0 (by omega)), P0 _ (q2b 0 (by omega)), P0 _ (q3 0 (by omega))⟩
        have B1 := Z1b (Q := fun s => s.get 1 = some (.var [.int .i64 7, .int .i64 x.id, .str [], .nilSl])) (a := S2) (r := [⟨S2.base, st1.next, st1.toks⟩, ⟨S2.base, st2.next, st2.toks⟩, ⟨S2.base, st2.next, st2.toks⟩, S3]) ⟨P1 _ (q2 1 (by omega)), P1 _ (q2a 1 (by omega)), P1 _ (q2b 1 (by omega)), P1 _ (q2b 1 (by omega)), P1 _ (q3 1 (by omega))⟩
        have C0 := Z1b (Q := fun s => s.get 0 = some (.var [.int .i64 x.id, .str x.label, .int .i64 x.out, .int .i64 x.into, p])) (a := S3) (r := [⟨S3.base, su1.next, su1.toks⟩, ⟨S3.base, su2.next, su2.toks⟩, ⟨S3.base, su2.next, su2.toks⟩, S4]) ⟨P0 _ (q3 0 (by omega)), P0 _ (q3a 0 (by omega)), P0 _ (q3b 0 (by omega)), P0 _ (q3b 0 (by omega)), P0 _ (q4 0 (by omega))⟩
        have C1 := Z1b (Q := fun s => s.get 1 = some (.var [.int .i64 7, .int .i64 x.id, .str [], .nilSl])) (a := S3) (r := [⟨S3.base, su1.next, su1.toks⟩, ⟨S3.base, su2.next, su2.toks⟩, ⟨S3.base, su2.next, su2.toks⟩, S4]) ⟨P1 _ (q3 1 (by omega)), P1 _ (q3a 1 (by omega)), P1 _ (q3b 1 (by omega)), P1 _ (q3b 1 (by omega)), P1 _ (q4 1 (by omega))⟩
        have D0 := Z1b (Q := fun s => s.get 0 = some (.var [.int .i64 x.id, .str x.label, .int .i64 x.out, .int .i64 x.into, p])) (a := S4) (r := [S5]) ⟨P0 _ (q4 0 (by omega)), P0 _ (q5 0 (by omega))⟩
        have D1 := Z1b (Q := fun s => s.get 1 = some (.var [.int .i64 7, .int .i64 x.id, .str [], .nilSl])) (a := S4) (r := [S5]) ⟨P1 _ (q4 1 (by omega)), P1 _ (q5 1 (by omega))⟩
        have D2 := Z1b (Q := fun s => s.get S1.next = some (.var [qk, qp])) (a := S4) (r := [S5]) (by
          have h : S4.get S1.next = some (.var [qk, qp]) := (e4 _ (by omega)).trans ((e3 _ (by omega)).trans w2)
          exact ⟨h, (e5 _ (by omega)).trans h⟩)
        have D3 := Z1b (Q := fun s => s.get st2.next = some (.var [v2, qn])) (a := S4) (r := [S5]) (by
          have h : S4.get st2.next = some (.var [v2, qn]) := (e4 _ (by omega)).trans w3
          exact ⟨h, (e5 _ (by omega)).trans h⟩)
        have D4 := Z1b (Q := fun s => s.get su2.next = some (.var [z2, qm])) (a := S4) (r := [S5]) ⟨w4, (e5 _ (by omega)).trans w4⟩
        obtain ⟨q, f1, f2⟩ := a4.view (by rw [List.length_append, idx_len]; simp; omega)
        refine Z6w rfl rfl ?_
        repeat' first | ((with_reducible show V _ _ _ _ _ _); first | refine V_C (mkC [16] [none] S1 [S2] (some (15, 4, 0, [.nilSl, .nilSl]))) rfl rfl ?_ | refine V_C (mkC [5, 8, 13, 15] [some 43, some 46, some 51, none] S2 [⟨S2.base, st1.next, st1.toks⟩, ⟨S2.base, st2.next, st2.toks⟩, ⟨S2.base, st2.next, st2.toks⟩, S3] (some (14, 5, 3, [.nilSl, .nilSl]))) rfl rfl ?_ | refine V_C (mkC [5, 8, 13, 15] [some 57, some 60, some 65, none] S3 [⟨S3.base, su1.next, su1.toks⟩, ⟨S3.base, su2.next, su2.toks⟩, ⟨S3.base, su2.next, su2.toks⟩, S4] (some (14, 6, 3, [.nilSl, .nilSl]))) rfl rfl ?_ | refine V_C (mkC [10] [some 76] S4 [S5] none) rfl rfl ?_ | refine Z5z rfl rfl f1 ?_ | refine Z3 rfl ?_ | refine Ze rfl rfl ?_) | ((with_reducible show VO _ _ _ _ _ _ _); first | refine Z8 rfl rfl b1 ?_ | refine Z8 rfl rfl b2 ?_ | refine Z8 rfl rfl b3 ?_ | refine Z8 rfl rfl hV ?_ | refine Zp rfl rfl rfl rfl rfl hst ?_ | refine Z0 rfl ?_ | refine Z9 rfl ?_ | refine Z4 ?_ | refine Zq rfl ?_) | ((with_reducible show Go.AM.VC _ _ _ _ _ _ _ _ _ _); first | refine Z43 rfl rfl rfl A1 rfl ?_ | refine Z43 rfl rfl rfl B1 rfl ?_ | refine Z43 rfl rfl rfl C1 rfl ?_ | refine Z43 rfl rfl rfl D1 rfl ?_ | refine Z43 rfl rfl rfl D2 rfl ?_ | refine Z43 rfl rfl rfl D3 rfl ?_ | refine Z43 rfl rfl rfl D4 rfl ?_ | refine Z60 rfl rfl rfl A0 rfl ?_ | refine Z60 rfl rfl rfl B0 rfl ?_ | refine Z60 rfl rfl rfl C0 rfl ?_ | refine Z60 rfl rfl rfl D0 rfl ?_ | refine Z7a rfl rfl rfl rfl (fun _ => Z17) k1 ?_ | refine Z7a rfl rfl rfl rfl (fun _ => Z17) o1 ?_ | refine Z7a rfl rfl rfl rfl (fun _ => Z17) t1 ?_ | refine Z7a rfl rfl rfl rfl (fun _ => Z17) p1 ?_ | refine Z7a rfl rfl rfl rfl (fun _ => Z17) i1 ?_ | refine Z7a rfl rfl rfl rfl (fun _ => Z17) n1 ?_ | refine Z7a rfl rfl rfl rfl (fun _ => Z17) m1 ?_ | refine Z4j rfl rfl rfl rfl rfl rfl rfl rfl r1 r4 rfl ?_ | refine Z4j rfl rfl rfl rfl rfl rfl rfl rfl r2 r5 rfl ?_ | refine Z4j rfl rfl rfl rfl rfl rfl rfl rfl u1 u4 rfl ?_ | refine Z4j rfl rfl rfl rfl rfl rfl rfl rfl u2 u5 rfl ?_ | refine Z88 rfl rfl (fun _ => hb1 _ _ _ _ rfl rfl) ?_ | refine C_move rfl rfl rfl rfl rfl rfl rfl (hb2 _ _ _ _ rfl rfl) ?_ | refine C_move rfl rfl rfl rfl rfl rfl rfl (hb3 _ _ _ _ rfl rfl) ?_ | refine Z88 rfl rfl (fun _ => hb4 _ _ _ _ _ rfl rfl rfl) ?_ | refine C_alloc rfl rfl rfl rfl ?_ | refine C_store (q := .agg [qk, qp]) rfl rfl rfl rfl rfl hS2.symm rfl rfl ho1 rfl rfl (by decide) ?_ | refine C_store (q := .agg [v2, qn]) rfl rfl rfl rfl rfl hS3.symm rfl rfl ho2 rfl rfl (by decide) ?_ | refine C_store (q := .agg [z2, qm]) rfl rfl rfl rfl rfl hS4.symm rfl rfl ho3 rfl rfl (by decide) ?_ | refine Ze5 rfl rfl rfl rfl rfl rfl rfl rfl rfl a1 a2 (by decide) (by decide) a3 ?_ | refine Z88 rfl rfl (fun _ => rfl) ?_ | refine C_nil rfl rfl ?_)
        exact f2
      · have hvK : Zh2 x = [] := by simp [Zh2, h3]
        rw [hvK]
        have c1 : (!idB x.id) = false := by simp [h1]
        have c2 : (!idB x.out) = false := by simp [h2]
        have c3 : (!idB x.into) = true := by simp [h3]
        rw [c1] at b1
        rw [c2] at b2
        rw [c3] at b3
        refine Z6w rfl rfl ?_
        repeat' first | ((with_reducible show V _ _ _ _ _ _); first | refine Z5z rfl rfl (Pl.view .nilSl) ?_ | refine Z3 rfl ?_ | refine Zb rfl rfl ?_) | ((with_reducible show VO _ _ _ _ _ _ _); first | refine Z8 rfl rfl b1 ?_ | refine Z8 rfl rfl b2 ?_ | refine Z8 rfl rfl b3 ?_ | refine Z0 rfl ?_ | refine Z9 rfl ?_ | refine Z4 ?_ | refine Zq rfl ?_)
        exact .inl ⟨rfl, rfl⟩
    · have hvK : Zh2 x = [] := by simp [Zh2, h2]
      rw [hvK]
      have c1 : (!idB x.id) = false := by simp [h1]
      have c2 : (!idB x.out) = true := by simp [h2]
      rw [c1] at b1
      rw [c2] at b2
      refine Z6w rfl rfl ?_
      repeat' first | ((with_reducible show V _ _ _ _ _ _); first | refine Z5z rfl rfl (Pl.view .nilSl) ?_ | refine Z3 rfl ?_ | refine Zb rfl rfl ?_) | ((with_reducible show VO _ _ _ _ _ _ _); first | refine Z8 rfl rfl b1 ?_ | refine Z8 rfl rfl b2 ?_ | refine Z0 rfl ?_ | refine Z9 rfl ?_ | refine Z4 ?_ | refine Zq rfl ?_ | refine Z19 rfl rfl ?_)
      exact .inl ⟨rfl, rfl⟩
  · have hvK : Zh2 x = [] := by simp [Zh2, h1]
    rw [hvK]
    have c1 : (!idB x.id) = true := by simp [h1]
    rw [c1] at b1
    refine Z6w rfl rfl ?_
    repeat' first | ((with_reducible show V _ _ _ _ _ _); first | refine Z5z rfl rfl (Pl.view .nilSl) ?_ | refine Z3 rfl ?_ | refine Zb rfl rfl ?_) | ((with_reducible show VO _ _ _ _ _ _ _); first | refine Z8 rfl rfl b1 ?_ | refine Z0 rfl ?_ | refine Z9 rfl ?_ | refine Z4 ?_ | refine Z19 rfl rfl ?_)
    exact .inl ⟨rfl, rfl⟩
abbrev Rd := List UInt8 × Bool
def RdR (st : St) (t : Nat) (r : Rd) : Prop := t < st.next ∧ r.1.length ≤ 1073741824 ∧ ∃ p, st.get t = some (.var [p, .bool r.2]) ∧ BV p r.1
def Mut (st st' : St) (t : Nat) : Prop := st'.base = st.base ∧ st.next ≤ st'.next ∧ ∀ u, u < st.next → u ≠ t → st'.get u = st.get u
theorem Mut.refl (st : St) (t : Nat) : Mut st st t := ⟨rfl, Nat.le_refl _, fun _ _ _ => rfl⟩
theorem Mut.trans {st st1 st2 : St} {t : Nat} (h : Mut st st1 t) (k : Mut st1 st2 t) : Mut st st2 t :=
  ⟨k.1.trans h.1, Nat.le_trans h.2.1 k.2.1, fun u hu hn => (k.2.2 u (by have := h.2.1; omega) hn).trans (h.2.2 u hu hn)⟩
theorem Mut.put (st : St) (t : Nat) (k : Tok) : Mut st (st.put t k) t := ⟨rfl, Nat.le_refl _, fun u hu hn => St.get_put_old (Ne.symm hn)⟩
theorem Mut.new (st : St) (t : Nat) (k : Tok) : Mut st (st.new k) t := ⟨rfl, Nat.le_succ _, fun u hu hn => St.get_new_old hu⟩
theorem Mut.re {st st' : St} {t : Nat} (h : Mut ⟨st.next, st.next, st.toks⟩ st' t) : Mut st ⟨st.base, st'.next, st'.toks⟩ t := ⟨rfl, h.2.1, h.2.2⟩
theorem RdR.re {st : St} {t : Nat} {r : Rd} (h : RdR st t r) (b : Nat) : RdR ⟨b, st.next, st.toks⟩ t r := h
theorem RdR.keep {st st' : St} {t : Nat} {r : Rd} (h : RdR st t r) (hn : st.next ≤ st'.next) (hg : st'.get t = st.get t) : RdR st' t r := by
  obtain ⟨h1, hb, p, h2, h3⟩ := h
  exact ⟨by omega, hb, p, hg.trans h2, h3⟩
theorem RdR.apart {st st' : St} {t u : Nat} {r : Rd} (h : RdR st t r) (m : Mut st st' u) (hn : t ≠ u) : RdR st' t r := h.keep m.2.1 (m.2.2 t h.1 hn)
theorem storeAt_rd0 {st : St} {t : Nat} {p q b : PV} (hg : st.get t = some (.var [p, b])) (hq : q.cells = [q]) : storeAt st (.ptr t 0) q = some (st.put t (.var [q, b])) := by
  simp only [storeAt, hg, hq]
  rfl
theorem Z9d {st : St} {t : Nat} {p b c : PV} (hg : st.get t = some (.var [p, b])) (hc : c.cells = [c]) : storeAt st (.ptr t 1) c = some (st.put t (.var [p, c])) := by
  simp only [storeAt, hg, hc]
  rfl
theorem bv_cells {p : PV} {s : List UInt8} (h : BV p s) : p.cells = [p] := by cases h <;> rfl
theorem Zbm {p : PV} {s : List UInt8} (h : BV p s) : PV.one p = true := by cases h <;> rfl
def Z1s (r : Rd) (n : Nat) (ok : Bool) : Rd × Bool := if r.2 = true ∨ ok = false ∨ r.1.length < n then ((r.1, true), false) else ((r.1.drop n, false), true)
theorem run_skip {st : St} {t : Nat} {r : Rd} (hr : RdR st t r) {n : Nat} (hn : n ≤ 140737488355328) {ok : Bool} : ∃ st', T.R (.raw Z18 [.ptr t 0, .int .i64 n, .bool ok] st (.bool (Z1s r n ok).2) st') ∧ RdR st' t (Z1s r n ok).1 ∧ Mut st st' t := by
  obtain ⟨b, bad⟩ := r
  obtain ⟨hlt, hbl, p, hg, hp⟩ := hr
  simp only at hbl hg hp
  have hbad : Z1s (b, true) n ok = ((b, true), false) := by simp [Z1s]
  have hst1 := Z9d (c := .bool true) hg rfl
  have hend : RdR (st.put t (.var [p, .bool true])) t (b, true) ∧ Mut st (st.put t (.var [p, .bool true])) t := ⟨⟨hlt, hbl, p, St.get_put, hp⟩, .put _ _ _⟩
  have key : ∃ v st', T.R (.raw Z18 [.ptr t 0, .int .i64 n, .bool ok] st v st') ∧ v = .bool (Z1s (b, bad) n ok).2 ∧ RdR st' t (Z1s (b, bad) n ok).1 ∧ Mut st st' t := by
    refine Z1c rfl rfl ?_
    cases bad with
    | true =>
      rw [hbad]
      repeat' first | ((with_reducible show V _ _ _ _ _ _); first | refine Z05 rfl rfl ⟨rfl, hend⟩ | refine Z3 rfl ?_ | refine Zb rfl rfl ?_) | ((with_reducible show VO _ _ _ _ _ _ _); first | refine Zf rfl hg rfl ?_ | refine Zp rfl rfl rfl rfl rfl hst1 ?_ | refine Z0 rfl ?_ | refine Z4 ?_ | refine Z19 rfl rfl ?_)
    | false =>
      cases ok with
      | false =>
        have h2 : Z1s (b, false) n false = ((b, true), false) := by simp [Z1s]
        rw [h2]
        repeat' first | ((with_reducible show V _ _ _ _ _ _); first | refine Z05 rfl rfl ⟨rfl, hend⟩ | refine Z3 rfl ?_ | refine Zb rfl rfl ?_) | ((with_reducible show VO _ _ _ _ _ _ _); first | refine Zf rfl hg rfl ?_ | refine Zp rfl rfl rfl rfl rfl hst1 ?_ | refine Z0 rfl ?_ | refine Z4 ?_ | refine Zq rfl ?_ | refine Z19 rfl rfl ?_)
      | true =>
        by_cases hnb : b.length < n
        · have h2 : Z1s (b, false) n true = ((b, true), false) := by simp [Z1s, hnb]
          have hc := Z0o (p := (b.length : Int) < (n : Int)) (by omega)
          rw [h2]
          repeat' first | ((with_reducible show V _ _ _ _ _ _); first | refine Z05 rfl rfl ⟨rfl, hend⟩ | refine Z3 rfl ?_ | refine Zb rfl rfl ?_) | ((with_reducible show VO _ _ _ _ _ _ _); first | refine Zf rfl hg rfl ?_ | refine Z0a rfl hp ?_ | refine Z6 hc rfl ?_ | refine Zp rfl rfl rfl rfl rfl hst1 ?_ | refine Z0 rfl ?_ | refine Z4 ?_ | refine Zq rfl ?_)
        · have h2 : Z1s (b, false) n true = ((b.drop n, false), true) := by simp [Z1s, hnb]
          have hc := Z07 (p := (b.length : Int) < (n : Int)) (by omega)
          obtain ⟨q, s1, s2⟩ := hp.lo st.get (k := .i64) (m := (n : Int)) (by omega) (by omega)
          rw [Int.toNat_natCast] at s2
          have hst0 := storeAt_rd0 (q := q) hg (bv_cells s2)
          have ho : q.cells.all PV.one = true := by rw [(bv_cells s2)]; simp [Zbm s2]
          have hl1 : q.cells.length = 1 := by rw [(bv_cells s2)]; rfl
          have hend2 : RdR (st.put t (.var [q, .bool false])) t (b.drop n, false) ∧ Mut st (st.put t (.var [q, .bool false])) t := ⟨⟨hlt, by simp only [List.length_drop]; omega, q, St.get_put, s2⟩, .put _ _ _⟩
          rw [h2]
          repeat' first | ((with_reducible show V _ _ _ _ _ _); first | refine Z05 rfl rfl ⟨rfl, hend2⟩ | refine Z3 rfl ?_ | refine Ze rfl rfl ?_) | ((with_reducible show VO _ _ _ _ _ _ _); first | refine Zf rfl hg rfl ?_ | refine Z0a rfl hp ?_ | refine Z6 hc rfl ?_ | refine Z2c q rfl rfl rfl rfl s1 ?_ | refine Zp rfl rfl ho hl1 rfl hst0 ?_ | refine Z0 rfl ?_ | refine Z4 ?_ | refine Zq rfl ?_)
  obtain ⟨v, st', h1, rfl, h2, h3⟩ := key
  exact ⟨st', h1, h2, h3⟩
theorem run_done {st : St} {t : Nat} {r : Rd} (hr : RdR st t r) : ∃ st', T.R (.raw Z1x [.ptr t 0] st (.bool (!r.2 && decide (r.1 = []))) st') ∧ Mut st st' t ∧ st'.get t = st.get t := by
  obtain ⟨b, bad⟩ := r
  obtain ⟨hlt, hbl, p, hg, hp⟩ := hr
  simp only at hbl hg hp
  have key : ∃ v st', T.R (.raw Z1x [.ptr t 0] st v st') ∧ v = .bool (!bad && decide (b = [])) ∧ Mut st st' t ∧ st'.get t = st.get t := by
    refine Z1c rfl rfl ?_
    cases bad with
    | true =>
      repeat' first | refine Z05 rfl rfl ⟨rfl, .refl _ _, rfl⟩ | refine Z3 rfl ?_ | ((with_reducible show VO _ _ _ _ _ _ _); first | refine Zf rfl hg rfl ?_ | refine Z0 rfl ?_ | refine Z4 ?_ | refine Z19 rfl rfl ?_)
    | false =>
      by_cases h0 : b = []
      · have hc := Z0o (p := (b.length : Int) = 0) (by rw [h0]; rfl)
        have he : (!false && decide (b = [])) = true := by simp [h0]
        rw [he]
        repeat' first | refine Z05 rfl rfl ⟨rfl, .refl _ _, rfl⟩ | refine Z3 rfl ?_ | ((with_reducible show VO _ _ _ _ _ _ _); first | refine Zf rfl hg rfl ?_ | refine Z0a rfl hp ?_ | refine Z6 hc rfl ?_ | refine Z0 rfl ?_ | refine Z4 ?_ | refine Zq rfl ?_)
      · have hc := Z07 (p := (b.length : Int) = 0) (by have := List.length_pos_iff.2 h0; omega)
        have he : (!false && decide (b = [])) = false := by simp [h0]
        rw [he]
        repeat' first | refine Z05 rfl rfl ⟨rfl, .refl _ _, rfl⟩ | refine Z3 rfl ?_ | ((with_reducible show VO _ _ _ _ _ _ _); first | refine Zf rfl hg rfl ?_ | refine Z0a rfl hp ?_ | refine Z6 hc rfl ?_ | refine Z0 rfl ?_ | refine Z4 ?_ | refine Zq rfl ?_)
  obtain ⟨v, st', h1, rfl, h2, h3⟩ := key
  exact ⟨st', h1, h2, h3⟩
def numR (r : Rd) (lo hi : Int) : Rd × Int := match Zfv 10 0 r.1 with
  | .ok u n => if r.2 = false ∧ (u : Int) ≤ hi ∧ lo ≤ (u : Int) then ((r.1.drop n, false), u) else ((r.1, true), 0)
  | _ => ((r.1, true), 0)
theorem run_num {st : St} {t : Nat} {r : Rd} (hr : RdR st t r) {lo hi : Int} (h0 : 0 ≤ hi) (h1 : hi ≤ 281474976710656) : ∃ st', T.R (.raw Z3e [.ptr t 0, .int .i64 lo, .int .i64 hi] st (.int .i64 (numR r lo hi).2) st') ∧ RdR st' t (numR r lo hi).1 ∧ Mut st st' t := by
  obtain ⟨b, bad⟩ := r
  have hr0 := hr
  obtain ⟨hlt, hbl, p, hg, hp⟩ := hr
  simp only at hbl hg hp
  have hpp := hp.pl
  have htk := run_NTake hp
  have hsk := fun (n : Nat) (hn : n ≤ 140737488355328) (ok : Bool) => run_skip (st := ⟨st.next, st.next, st.toks⟩) (hr0.re _) hn (ok := ok)
  have key : ∃ v st', T.R (.raw Z3e [.ptr t 0, .int .i64 lo, .int .i64 hi] st v st') ∧ v = .int .i64 (numR (b, bad) lo hi).2 ∧ RdR st' t (numR (b, bad) lo hi).1 ∧ Mut st st' t := by
    refine Z1c rfl rfl ?_
    have hfail : ∀ e : Int, ∃ st1, T.R (.raw Z18 [.ptr t 0, .int .i64 0, .bool false] ⟨st.next, st.next, st.toks⟩ (.bool false) st1) ∧ st1.base = st.next ∧ RdR ⟨st.base, st1.next, st1.toks⟩ t (b, true) ∧ Mut st ⟨st.base, st1.next, st1.toks⟩ t := fun _ => by
      obtain ⟨st1, k1, k2, k3⟩ := hsk 0 (by omega) false
      have : Z1s (b, bad) 0 false = ((b, true), false) := by simp [Z1s]
      rw [this] at k1 k2
      exact ⟨st1, k1, k3.1, k2, k3.re⟩
    cases hd : Zfv 10 0 b with
    | ends =>
      rw [hd] at htk
      have he : numR (b, bad) lo hi = ((b, true), 0) := by simp [numR, hd]
      rw [he]
      obtain ⟨st1, k1, k2, k3⟩ := hfail 11
      repeat' first | ((with_reducible show V _ _ _ _ _ _); first | refine Z05 rfl rfl ⟨rfl, k3⟩ | refine Z3 rfl ?_ | refine Zb rfl rfl ?_) | ((with_reducible show VO _ _ _ _ _ _ _); first | refine Zf rfl hg rfl ?_ | refine Z8 rfl rfl htk ?_ | refine Z0d k1 k2 rfl rfl ?_ | refine Z0 rfl ?_ | refine Z4 ?_ | refine Z19 rfl rfl ?_)
    | form =>
      rw [hd] at htk
      have he : numR (b, bad) lo hi = ((b, true), 0) := by simp [numR, hd]
      rw [he]
      obtain ⟨st1, k1, k2, k3⟩ := hfail 12
      repeat' first | ((with_reducible show V _ _ _ _ _ _); first | refine Z05 rfl rfl ⟨rfl, k3⟩ | refine Z3 rfl ?_ | refine Zb rfl rfl ?_) | ((with_reducible show VO _ _ _ _ _ _ _); first | refine Zf rfl hg rfl ?_ | refine Z8 rfl rfl htk ?_ | refine Z0d k1 k2 rfl rfl ?_ | refine Z0 rfl ?_ | refine Z4 ?_ | refine Z19 rfl rfl ?_)
    | ok u n =>
      rw [hd] at htk
      have hnl := decN_le _ _ _ _ _ hd
      have hu := decN_u64 hd
      have ew : PV.int .u64 (IntKind.u64.wrap hi) = PV.int .u64 hi := Z6g (by rw [Z0p]; omega)
      by_cases hc1 : (u : Int) ≤ hi
      · have ew2 : PV.int .i64 (IntKind.i64.wrap (u : Int)) = PV.int .i64 (u : Int) := Z6g (by rw [Z06]; omega)
        have d1 := Z0o (p := (u : Int) ≤ hi) hc1
        by_cases hc2 : lo ≤ (u : Int)
        · have d2 := Z0o (p := lo ≤ (u : Int)) hc2
          obtain ⟨st1, k1, k2, k3⟩ := hsk n (by omega) true
          cases bad with
          | true =>
            have h2 : Z1s (b, true) n true = ((b, true), false) := by simp [Z1s]
            rw [h2] at k1 k2
            have he : numR (b, true) lo hi = ((b, true), 0) := by simp [numR, hd]
            rw [he]
            have hend : RdR ⟨st.base, st1.next, st1.toks⟩ t (b, true) ∧ Mut st ⟨st.base, st1.next, st1.toks⟩ t := ⟨k2, k3.re⟩
            repeat' first | ((with_reducible show V _ _ _ _ _ _); first | refine Z05 rfl rfl ⟨rfl, hend⟩ | refine Z3 rfl ?_ | refine Zb rfl rfl ?_) | ((with_reducible show VO _ _ _ _ _ _ _); first | refine Zf rfl hg rfl ?_ | refine Z8 rfl rfl htk ?_ | refine Z6 ew rfl ?_ | refine Z6 d1 rfl ?_ | refine Z6 ew2 rfl ?_ | refine Z6 d2 rfl ?_ | refine Z0d k1 k3.1 rfl rfl ?_ | refine Z0 rfl ?_ | refine Z4 ?_ | refine Zq rfl ?_)
          | false =>
            have h2 : Z1s (b, false) n true = ((b.drop n, false), true) := by
              unfold Z1s
              rw [if_neg (by simp only [Bool.false_eq_true, false_or, reduceCtorEq]; omega)]
            rw [h2] at k1 k2
            have he : numR (b, false) lo hi = ((b.drop n, false), (u : Int)) := by simp [numR, hd, hc1, hc2]
            rw [he]
            have hend : RdR ⟨st.base, st1.next, st1.toks⟩ t (b.drop n, false) ∧ Mut st ⟨st.base, st1.next, st1.toks⟩ t := ⟨k2, k3.re⟩
            repeat' first | ((with_reducible show V _ _ _ _ _ _); first | refine Z05 rfl rfl ⟨rfl, hend⟩ | refine Z3 rfl ?_ | refine Ze rfl rfl ?_) | ((with_reducible show VO _ _ _ _ _ _ _); first | refine Zf rfl hg rfl ?_ | refine Z8 rfl rfl htk ?_ | refine Z6 ew rfl ?_ | refine Z6 d1 rfl ?_ | refine Z6 ew2 rfl ?_ | refine Z6 d2 rfl ?_ | refine Z0d k1 k3.1 rfl rfl ?_ | refine Z0 rfl ?_ | refine Z4 ?_ | refine Zq rfl ?_)
        · have d2 := Z07 (p := lo ≤ (u : Int)) hc2
          have he : numR (b, bad) lo hi = ((b, true), 0) := by simp [numR, hd, hc2]
          rw [he]
          obtain ⟨st1, k1, k2, k3⟩ := hsk n (by omega) false
          have h2 : Z1s (b, bad) n false = ((b, true), false) := by simp [Z1s]
          rw [h2] at k1 k2
          have hend : RdR ⟨st.base, st1.next, st1.toks⟩ t (b, true) ∧ Mut st ⟨st.base, st1.next, st1.toks⟩ t := ⟨k2, k3.re⟩
          repeat' first | ((with_reducible show V _ _ _ _ _ _); first | refine Z05 rfl rfl ⟨rfl, hend⟩ | refine Z3 rfl ?_ | refine Zb rfl rfl ?_) | ((with_reducible show VO _ _ _ _ _ _ _); first | refine Zf rfl hg rfl ?_ | refine Z8 rfl rfl htk ?_ | refine Z6 ew rfl ?_ | refine Z6 d1 rfl ?_ | refine Z6 ew2 rfl ?_ | refine Z6 d2 rfl ?_ | refine Z0d k1 k3.1 rfl rfl ?_ | refine Z0 rfl ?_ | refine Z4 ?_ | refine Zq rfl ?_)
      · have d1 := Z07 (p := (u : Int) ≤ hi) hc1
        have he : numR (b, bad) lo hi = ((b, true), 0) := by simp [numR, hd, hc1]
        rw [he]
        obtain ⟨st1, k1, k2, k3⟩ := hsk n (by omega) false
        have h2 : Z1s (b, bad) n false = ((b, true), false) := by simp [Z1s]
        rw [h2] at k1 k2
        have hend : RdR ⟨st.base, st1.next, st1.toks⟩ t (b, true) ∧ Mut st ⟨st.base, st1.next, st1.toks⟩ t := ⟨k2, k3.re⟩
        repeat' first | ((with_reducible show V _ _ _ _ _ _); first | refine Z05 rfl rfl ⟨rfl, hend⟩ | refine Z3 rfl ?_ | refine Zb rfl rfl ?_) | ((with_reducible show VO _ _ _ _ _ _ _); first | refine Zf rfl hg rfl ?_ | refine Z8 rfl rfl htk ?_ | refine Z6 ew rfl ?_ | refine Z6 d1 rfl ?_ | refine Z0d k1 k3.1 rfl rfl ?_ | refine Z0 rfl ?_ | refine Z4 ?_ | refine Zq rfl ?_ | refine Z19 rfl rfl ?_)
  obtain ⟨v, st', k1, rfl, k2, k3⟩ := key
  exact ⟨st', k1, k2, k3⟩
end Go.Proofs.YtgdjnlopdpjnaaaDoor

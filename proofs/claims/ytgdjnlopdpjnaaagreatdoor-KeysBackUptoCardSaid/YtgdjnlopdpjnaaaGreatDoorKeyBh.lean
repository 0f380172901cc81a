/- ramblelaw11.KeysBack. -/
import Derived.Test.YtgdjnlopdpjnaaaGreatDoorKeyBcToKeyBg
import Derived.Test.YtgdjnlopdpjnaaaGreatDoorAmZ
set_option linter.unusedVariables false
set_option linter.unusedSimpArgs false
namespace Go.Proofs.YtgdjnlopdpjnaaaGreatDoor
open Go Go.AM Go.RowKit
theorem en_all {xs : List (List PV)} {l : List Ent} (hl : xs.length = l.length) (h : ∀ (j : Nat) (a : Ent) (cs : List PV), l[j]? = some a → xs[j]? = some cs → EnC a cs) : Z0x 2 xs = true := by
  unfold Z0x
  rw [List.all_eq_true]
  intro cs hcs
  obtain ⟨j, hj⟩ := List.getElem?_of_mem hcs
  have hlt : j < l.length := by rw [← hl]; exact (List.getElem?_eq_some_iff.1 hj).1
  have := (h j l[j] cs (List.getElem?_eq_getElem hlt) hj).len2
  simp [this]
theorem en_tail {q : PV} {a : Ent} {l : List Ent} (h : LR EnC q (a :: l)) : ∃ q', (∀ (look : Nat → Option Tok), sliceSl? look 2 (some (.int .i64 1)) none none q = some q') ∧ LR EnC q' l := by
  rcases h with ⟨_, h⟩ | ⟨xs, f, rfl, hb, hl, h⟩
  · cases h
  · refine ⟨_, fun look => Zd9 (en_all hl h) (by omega) (by rw [hl]; simp; omega), .inr ⟨_, f, rfl, by simp at hb; omega, by simp [hl], fun j b cs h1 h2 => ?_⟩⟩
    rw [List.getElem?_drop] at h2
    exact h (j + 1) b cs (by simpa using h1) (by rw [← h2]; congr 1; simp; omega)
theorem lr_vals {p : PV} {l : List Prp} (h : LR PpC p l) : ∀ y ∈ l, y.name.length ≤ 140737488355328 ∧ ∃ cs, VC y.val cs := by
  intro y hy
  obtain ⟨j, hj⟩ := List.getElem?_of_mem hy
  obtain ⟨cs, _, hn, vc, _, hv⟩ := h.at (fun _ _ h => h.len5) hj
  exact ⟨hn, vc, hv⟩
theorem D_slice {T : Tb} {Q : Z41} {k : List Fr} {l : List POp} {kill : List Nat} {ρ : EC} {st : St} {d : Option Nat} {x : Opd} {lo hi mx : Option Opd} {sz : Nat} {p : PV} {a b c : Option PV} (q : PV) (hx : x.get ρ = some p) (hl : Z2w ρ lo = some a) (hh : Z2w ρ hi = some b) (hm : Z2w ρ mx = some c) (hs : sliceSl? st.get sz a b c p = some q) (h : VD T Q l kill k (ρ.sets d q) st) : VD T Q (⟨d, none, .sliceSl x sz lo hi mx⟩ :: l) kill k ρ st :=
  Z0h (by simp only [Zj, Z5e, hx, hl, hh, hm]; exact hs) h
theorem MI_nil1 {T : Tb} {Q : Z41} {m1 m2 j : Nat} {k : List Fr} {kill : List Nat} {ρ : EC} {S : Bool → Bool → St} {b c : Bool} {B : St} (hB : B = S b c) (h : V T Q k .normal (.drop kill ρ) B) : VMI T Q m1 m2 S j [] kill k ρ b c := by
  subst hB
  exact MI_nil h
theorem D_lenB {T : Tb} {Q : Z41} {k : List Fr} {l : List POp} {kill : List Nat} {ρ : EC} {st : St} {d : Option Nat} {x : Opd} {v : PV} {s : List UInt8} (hx : x.get ρ = some v) (hv : BV v s) (h : VD T Q l kill k (ρ.sets d (.int .i64 s.length)) st) : VD T Q (⟨d, none, .len false x⟩ :: l) kill k ρ st :=
  Z0h (by simp only [Zj, Z5e, hx, hv.len, hv.notStr]; rfl) h
theorem vtxK_ok {x : Vtx} (h : idB x.id = true) : vtxK x = (Z25 (Z4u x.id), Z1l x.label ++ Z0y x.props) :: Zku (Z4u x.id) x.label x.props := by simp [vtxK, h]
theorem elemK_len {n : Int} (h : idB n = true) : (Z25 (Z4u n)).length = 10 ∧ (Z25 (Z2z n)).length = 10 := by
  obtain ⟨h1, h2⟩ := Ziv h
  have e1 : Z25 (Z4u n) = 1 :: kB (Z4u n) := by
    simp only [Z25, Zic h, if_true]
    rfl
  have e2 : Z25 (Z2z n) = 2 :: kB (Z2z n) := by
    simp only [Z25, Zid h, if_true]
    rfl
  rw [e1, e2]
  simp [h1, h2]
set_option maxHeartbeats 16000000 in
theorem run_Back {v : Vtx} {cv : List PV} (hv : VtC v cv) (bv : BdK v.label v.props) (sv : (Z1l v.label ++ Z0y v.props).length ≤ 1000000000) {e : Lnk} {ce : List PV} (he : LkC e ce) (be : BdK e.label e.props) (se : (Z1l e.label ++ Z0y e.props).length ≤ 1000000000) : T.R (.call Z9b [.agg cv, .agg ce] (.bool true)) := by
  have hbg := run_kBegun
  have hv0 := hv
  obtain ⟨hid, hlab, p, rfl, hp⟩ := hv
  obtain ⟨hid', hlab', ho', hi', p', rfl, hp'⟩ := he
  have hpp := hp.pl (fun a _ cs h => h.pl)
  have hpp' := hp'.pl (fun a _ cs h => h.pl)
  have he2 : LkC (⟨e.id, e.label, v.id, v.id, e.props⟩ : Lnk) [.int .i64 e.id, .str e.label, .int .i64 v.id, .int .i64 v.id, p'] := ⟨hid', hlab', hid, hid, p', rfl, hp'⟩
  have hst := run_stands hv0 he2
  obtain ⟨qv, a1, a2⟩ := run_Vertex hv0 bv.1 (Nat.le_trans bv.2.1 (by decide)) bv.2.2.1 bv.2.2.2
  obtain ⟨qe, b1, b2⟩ := edge_of he2 be
  have pqv := a2.pl (fun a _ cs h => h.pl)
  have pqe := b2.pl (fun a _ cs h => h.pl)
  generalize hA : ((emptySt.new (.var [.int .i64 v.id, .str v.label, p])).new (.var [.int .i64 e.id, .str e.label, .int .i64 e.out, .int .i64 e.into, p'])) = A
  have A0 : A.get 0 = some (.var [.int .i64 v.id, .str v.label, p]) := by rw [← hA]; rfl
  have A1 : A.get 1 = some (.var [.int .i64 e.id, .str e.label, .int .i64 e.out, .int .i64 e.into, p']) := by rw [← hA]; rfl
  have nA : A.next = 2 := by rw [← hA]; rfl
  obtain ⟨B, hB⟩ : ∃ B, B = A.put 1 (.var [.int .i64 e.id, .str e.label, .int .i64 v.id, .int .i64 v.id, p']) := ⟨_, rfl⟩
  have B0 : B.get 0 = some (.var [.int .i64 v.id, .str v.label, p]) := by rw [hB]; exact (St.get_put_old (by omega)).trans A0
  have B1 : B.get 1 = some (.var [.int .i64 e.id, .str e.label, .int .i64 v.id, .int .i64 v.id, p']) := by rw [hB]; exact St.get_put
  have nB : B.next = 2 := by rw [hB]; exact nA
  have hload : ∀ (x y : Bool) (ρ : EC) {i : Nat}, ρ.get i = some (.ptr 0 0) → Zj ((A.two 1 [.int .i64 e.id, .str e.label, .int .i64 e.out, .int .i64 e.into, p'] 2 (.int .i64 v.id) 3 (.int .i64 v.id)) x y).get ρ (.load 1 false (.t i)) = some (.int .i64 v.id) := fun x y ρ i hi => by
    have g : ((A.two 1 [.int .i64 e.id, .str e.label, .int .i64 e.out, .int .i64 e.into, p'] 2 (.int .i64 v.id) 3 (.int .i64 v.id)) x y).get 0 = some (.var [.int .i64 v.id, .str v.label, p]) := by
      cases x <;> cases y <;> first | exact A0 | exact (St.get_put_old (by omega)).trans A0
    simp only [Zj, Z5e, Opd.get, hi, loadAt, behind, g]
    rfl
  cases hs : Z5s v ⟨e.id, e.label, v.id, v.id, e.props⟩ with
  | false =>
    rw [hs] at hst
    refine Zd rfl rfl ?_
    repeat' first | ((with_reducible show V _ _ _ _ _ _); first | refine V_MI 5 7 (A.two 1 [.int .i64 e.id, .str e.label, .int .i64 e.out, .int .i64 e.into, p'] 2 (.int .i64 v.id) 3 (.int .i64 v.id)) rfl rfl ?_ | refine Z1 rfl ?_ | refine Za rfl rfl ?_ | refine Zc rfl rfl ?_) | ((with_reducible show VO _ _ _ _ _ _ _); first | refine O_alloc2 hA ?_ | refine Z0e rfl B0 rfl ?_ | refine Z0e rfl B1 rfl ?_ | refine Z7 rfl rfl hbg ?_ | refine Z7 rfl rfl hst ?_ | refine Z0 rfl ?_ | refine Z8 rfl ?_ | refine Z2 ?_ | refine Zf rfl ?_) | refine MI_st1 A1 rfl rfl rfl rfl rfl rfl rfl ?_ | refine MI_st2 A1 rfl rfl rfl rfl rfl rfl ?_ | refine MI_step rfl rfl (hload _ _ _ rfl) (hload _ _ _ rfl) (hload _ _ _ rfl) (hload _ _ _ rfl) ?_ | refine MI_step rfl rfl rfl rfl rfl rfl ?_ | refine MI_nil1 hB ?_
    rfl
  | true =>
    rw [hs] at hst
    simp only [Z5s, Za0, Bool.and_eq_true, decide_eq_true_eq] at hs
    obtain ⟨⟨⟨okv, _⟩, _⟩, ⟨⟨⟨i1, nl'⟩, po'⟩, _⟩⟩ := hs
    have okv0 := okv
    simp only [Z99, Bool.and_eq_true] at okv
    obtain ⟨⟨i0, nl⟩, po⟩ := okv
    have h16 : v.props.length ≤ 16 := by simp only [Z27, Bool.and_eq_true, decide_eq_true_eq] at po; exact po.1
    have h16' : e.props.length ≤ 16 := by simp only [Z27, Bool.and_eq_true, decide_eq_true_eq] at po'; exact po'.1
    have pn := Zi1 (by simp only [Z27, Bool.and_eq_true] at po; exact po.2)
    have pn' := Zi1 (by simp only [Z27, Bool.and_eq_true] at po'; exact po'.2)
    have kv := vtxK_ok i0
    have ke := lnkK_ok (x := ⟨e.id, e.label, v.id, v.id, e.props⟩) i1 i0 i0
    have lv : (vtxK v).length = 2 + v.props.length := by rw [kv]; simp [Zku]; omega
    have le : (lnkK ⟨e.id, e.label, v.id, v.id, e.props⟩).length = 4 + e.props.length := by rw [ke]; simp [Zku]; omega
    obtain ⟨f1, f2, _⟩ := a2.len
    obtain ⟨g1, g2, _⟩ := b2.len
    rw [lv] at f1
    rw [le] at g1
    obtain ⟨h1, h2, _⟩ := hp.len
    obtain ⟨h3, h4, _⟩ := hp'.len
    have w2 : PV.int .i64 (IntKind.i64.wrap (2 + (v.props.length : Int))) = PV.int .i64 ((2 + v.props.length : Nat) : Int) := Z1u (by rw [Z03]; omega)
    have w4 : PV.int .i64 (IntKind.i64.wrap (4 + (e.props.length : Int))) = PV.int .i64 ((4 + e.props.length : Nat) : Int) := Z1u (by rw [Z03]; omega)
    have d2 := Zew (p := ((2 + v.props.length : Nat) : Int) = ((2 + v.props.length : Nat) : Int)) rfl
    have d4 := Zew (p := ((4 + e.props.length : Nat) : Int) = ((4 + e.props.length : Nat) : Int)) rfl
    obtain ⟨xs, at1, k1, v1, rfl, c1, c2⟩ := a2.at (fun _ _ h => h.len2) (j := 0) (a := (Z25 (Z4u v.id), Z1l v.label ++ Z0y v.props)) (by rw [kv]; rfl)
    obtain ⟨ys, at2, k2, v2, rfl, c3, c4⟩ := b2.at (fun _ _ h => h.len2) (j := 0) (a := (Z25 (Z2z e.id), Zt v.id ++ Zt v.id ++ Z1l e.label ++ Z0y e.props)) (by rw [ke]; rfl)
    have pk1 := c1.pl
    have pv1 := c2.pl
    have pk2 := c3.pl
    have pv2 := c4.pl
    have hln : (Zt v.id).length ≤ 10 := Z1o _ _
    obtain ⟨r1, q1, q2⟩ := run_ParseV c1 c2 (by omega) okv0 (lr_vals hp)
    obtain ⟨r2, q3, q4⟩ := run_ParseE (x := ⟨e.id, e.label, v.id, v.id, e.props⟩) c3 c4 (by simp only [List.length_append] at se ⊢; omega) i1 i0 i0 nl' po' (lr_vals hp')
    have pr1 := q2.pl (fun a _ cs h => h.pl)
    have pr2 := q4.pl (fun a _ cs h => h.pl)
    have one1 := Zif q2
    have one2 := Zif q4
    have s1 := Zjk (i := v.id) (s := v.label) q2 hp
    have s2 := run_SameLink (i := e.id) (s := e.label) (o := v.id) (n := v.id) q4 hp'
    have hone1 : (PV.agg [.int .i64 v.id, .str v.label, r1]).cells.all PV.one = true := by
      show [PV.int .i64 v.id, .str v.label, r1].all PV.one = true
      simp only [List.all_cons, List.all_nil, one1]
      rfl
    have hone2 : (PV.agg [.int .i64 e.id, .str e.label, .int .i64 v.id, .int .i64 v.id, r2]).cells.all PV.one = true := by
      show [PV.int .i64 e.id, .str e.label, .int .i64 v.id, .int .i64 v.id, r2].all PV.one = true
      simp only [List.all_cons, List.all_nil, one2]
      rfl
    generalize hC : (B.new (.var zV)).put B.next (.var [.int .i64 v.id, .str v.label, r1]) = C
    have stC : storeAt (B.new (.var zV)) (.ptr B.next 0) (.agg [.int .i64 v.id, .str v.label, r1]) = some C := by rw [← hC]; exact Z01 St.get_new rfl
    have C2 : C.get B.next = some (.var [.int .i64 v.id, .str v.label, r1]) := by rw [← hC]; exact St.get_put
    have oC : ∀ u, u < B.next → C.get u = B.get u := fun u hu => by rw [← hC]; exact var_put.2.1 u hu
    have nC : C.next = B.next + 1 := by rw [← hC]; rfl
    have C0 := (oC 0 (by omega)).trans B0
    have C1 := (oC 1 (by omega)).trans B1
    generalize hD : (C.new (.var z5L)).put C.next (.var [.int .i64 e.id, .str e.label, .int .i64 v.id, .int .i64 v.id, r2]) = D
    have stD : storeAt (C.new (.var z5L)) (.ptr C.next 0) (.agg [.int .i64 e.id, .str e.label, .int .i64 v.id, .int .i64 v.id, r2]) = some D := by rw [← hD]; exact Z01 St.get_new rfl
    have D3 : D.get C.next = some (.var [.int .i64 e.id, .str e.label, .int .i64 v.id, .int .i64 v.id, r2]) := by rw [← hD]; exact St.get_put
    have oD : ∀ u, u < C.next → D.get u = C.get u := fun u hu => by rw [← hD]; exact var_put.2.1 u hu
    have D0 := (oD 0 (by omega)).trans C0
    have D1 := (oD 1 (by omega)).trans C1
    have D2 := (oD B.next (by omega)).trans C2
    rw [kv] at a2
    rw [ke] at b2
    obtain ⟨tv, t1, t2⟩ := en_tail a2
    obtain ⟨te, t3, t4⟩ := en_tail b2
    have ptv := t2.pl (fun a _ cs h => h.pl)
    have pte := t4.pl (fun a _ cs h => h.pl)
    have n1 := run_named t2 (ev := Z4u v.id) (vc_vtx hid) (fun y hy => ⟨nm_idx (k := 6) (.inl rfl) rfl (Zic i0) (Zaq i0) (Ziv i0).1 nl pn y hy, by
      simp only [Zku, List.mem_cons, List.mem_map] at hy
      rcases hy with rfl | ⟨z, _, rfl⟩ <;> simp⟩)
    have hsl : ∀ {s : List UInt8}, Z2o s = true → (kB (Zbh s)).length ≤ 27 := fun h => by
      have := (Zha h).2
      rw [kB_str h]
      simp
      omega
    have l1 := hsl nl'
    have lk1 := (Ziv i0).1
    have lk2 := (Ziv i1).2
    have n2 := run_named t4 (ev := Z2z e.id) (vc_edg hid') (fun y hy => by
      rcases List.mem_cons.1 hy with rfl | hy
      · exact ⟨⟨⟨v.id, elem_out (.inl rfl) i0 i1 i0 nl'⟩, by simp [Z1x]; omega⟩, by show (Zt v.id).length ≤ _; omega⟩
      · rcases List.mem_cons.1 hy with rfl | hy
        · exact ⟨⟨⟨v.id, elem_out (.inr rfl) i0 i1 i0 nl'⟩, by simp [Z1x]; omega⟩, by show (Zt v.id).length ≤ _; omega⟩
        · refine ⟨nm_idx (k := 7) (.inr rfl) rfl (Zid i1) (Zaq i1) lk2 nl' pn' y hy, ?_⟩
          simp only [Zku, List.mem_cons, List.mem_map] at hy
          rcases hy with rfl | ⟨z, _, rfl⟩ <;> simp)
    have rv := run_rVtx v.id
    have re := run_rEdg e.id
    have ek := elemK_len i0
    have ek' := elemK_len i1
    have x1 := Zs (p := ((Z25 (Z4u v.id)).length : Int) ≤ 96) (by omega)
    have x2 := Zs (p := ((Z25 (Z2z e.id)).length : Int) ≤ 96) (by omega)
    have hc2 : [k1, v1].length = 2 := rfl
    have hc3 : [k2, v2].length = 2 := rfl
    refine Zd rfl rfl ?_
    repeat' first | ((with_reducible show V _ _ _ _ _ _); first | refine V_MI 5 7 (A.two 1 [.int .i64 e.id, .str e.label, .int .i64 e.out, .int .i64 e.into, p'] 2 (.int .i64 v.id) 3 (.int .i64 v.id)) rfl rfl ?_ | refine Z1 rfl ?_ | refine Zb rfl rfl ?_ | refine Zc rfl rfl ?_ | refine V_D rfl ?_) | ((with_reducible show VO _ _ _ _ _ _ _); first | refine O_alloc2 hA ?_ | refine Z0e rfl B0 rfl ?_ | refine Z0e rfl B1 rfl ?_ | refine Z7 rfl rfl hbg ?_ | refine Z7 rfl rfl hst ?_ | refine Z07 rfl f1 f2 ?_ | refine Z07 rfl g1 g2 ?_ | refine Z07 rfl h1 h2 ?_ | refine Z07 rfl h3 h4 ?_ | refine Zr rfl B0 rfl ?_ | refine Zr rfl B1 rfl ?_ | refine Z4 w2 rfl ?_ | refine Z4 w4 rfl ?_ | refine Z4 d2 rfl ?_ | refine Z4 d4 rfl ?_ | refine Zq rfl rfl at1 ?_ | refine Zq rfl rfl at2 ?_ | refine O_loadI rfl hc2 ?_ | refine Z7 rfl rfl q1 ?_ | refine Z7 rfl rfl q3 ?_ | refine Ze rfl rfl hone1 rfl rfl stC ?_ | refine Ze rfl rfl hone2 rfl rfl stD ?_ | refine Z0e rfl D0 rfl ?_ | refine Z0e rfl D1 rfl ?_ | refine Z0e rfl D2 rfl ?_ | refine Z0e rfl D3 rfl ?_ | refine Z7 rfl rfl s1 ?_ | refine Z7 rfl rfl s2 ?_ | refine Z0 rfl ?_ | refine Z8 rfl ?_ | refine Z2 ?_ | refine Zf rfl ?_) | ((with_reducible show VD _ _ _ _ _ _ _); first | refine D_loadW rfl B0 (Nat.le_refl 3) rfl ?_ | refine D_loadW rfl B1 (Nat.le_refl 5) rfl ?_ | refine Z4a rfl rfl a1 ?_ | refine Z4a rfl rfl b1 ?_ | refine D_slice tv rfl rfl rfl rfl (t1 _) ?_ | refine D_slice te rfl rfl rfl rfl (t3 _) ?_ | refine D_loadV rfl D0 rfl ?_ | refine D_loadV rfl D1 rfl ?_ | refine Z4a rfl rfl rv ?_ | refine Z4a rfl rfl re ?_ | refine Z4a rfl rfl n1 ?_ | refine Z4a rfl rfl n2 ?_ | refine Zh3 rfl rfl at1 ?_ | refine Zh3 rfl rfl at2 ?_ | refine D_lenB rfl c1 ?_ | refine D_lenB rfl c3 ?_ | refine Z6q x1 rfl ?_ | refine Z6q x2 rfl ?_ | refine Z0h rfl ?_ | refine Z1k ?_ | refine Z9m rfl ?_) | refine MI_st1 A1 rfl rfl rfl rfl rfl rfl rfl ?_ | refine MI_st2 A1 rfl rfl rfl rfl rfl rfl ?_ | refine MI_step rfl rfl (hload _ _ _ rfl) (hload _ _ _ rfl) (hload _ _ _ rfl) (hload _ _ _ rfl) ?_ | refine MI_step rfl rfl rfl rfl rfl rfl ?_ | refine MI_nil1 hB ?_
    rfl
end Go.Proofs.YtgdjnlopdpjnaaaGreatDoor

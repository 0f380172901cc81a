/- rambleref11: indexes, Vertex, Edge. · rambleref11: Edge, Same; ramblelaw11.KeysEntries. · ramblelaw11.KeysEntries. -/
import Derived.Test.YtgdjnlopdpjnaaaGreatDoorPutZToKeyW
set_option linter.unusedVariables false
set_option linter.unusedSimpArgs false
namespace Go.Proofs.YtgdjnlopdpjnaaaGreatDoor
open Go Go.AM Go.RowKit
theorem Grow.old {st st' : St} {v' : PV} (h : Grow st .nilSl st' v') {u : Nat} {k : Tok} (hu : u < st.next) (hg : st.get u = some k) : st'.get u = some k := (h.2.2.2 u hu (by simp [Z15])).trans hg
set_option maxHeartbeats 4000000 in
theorem ridx_loop {l : List Prp} {p : PV} (hp : LR PpC p l) (hpm : ∀ x ∈ l, (putM x.val).length ≤ 100000000000000) {elem : Val} {ecs : List PV} (hv : VC elem ecs) (hll : l.length ≤ 100000000000) {t0 : Nat} : ∀ (rest pre : List Prp) (st : St) (v : PV) (acc : List Ent), l = pre ++ rest → EA st v acc → acc.length ≤ 1 + pre.length → st.get t0 = some (.var ecs) → t0 < st.next →
    V T (PE fun x e st' => x = .exit 0 ∧ ∃ v', e = ecOf [(8, v')] ∧ EA st' v' (acc ++ rest.map (propEnt elem))) [.code (.loop Z46)] .normal (ecOf [(2, p), (3, .ptr t0 0), (7, .int .u8 (UInt8.ofNat (elem.kind % 256).toNat).toNat), (8, v), (9, .int .i64 pre.length)]) st := by
  obtain ⟨e1, e2, hbig⟩ := hp.len
  intro rest
  induction rest with
  | nil =>
    intro pre st v acc hl hA hal hg0 hlt0
    have hlt : decide ((pre.length : Int) < l.length) = false := decide_eq_false (by subst hl; simp)
    refine Z08 ?_
    repeat' first | ((with_reducible show V _ _ _ _ _ _); first | refine Z2y hlt rfl rfl ?_ | refine V_out [(8, v)] rfl ⟨rfl, trivial⟩ ⟨rfl, v, rfl, by simpa using hA⟩ | refine V_O rfl ?_) | ((with_reducible show VO _ _ _ _ _ _ _); first | refine Z0p rfl e1 e2 ?_ | refine Z02 rfl ?_ | refine Z03 ?_)
  | cons x rest ih =>
    intro pre st v acc hl hA hal hg0 hlt0
    have hlt : decide ((pre.length : Int) < l.length) = true := decide_eq_true (by subst hl; simp; omega)
    have hpl : pre.length < l.length := by subst hl; simp
    have hxm := hpm x (by rw [hl]; simp)
    obtain ⟨cs, hat, hvc⟩ := hp.at (fun _ _ h => h.len5) (j := pre.length) (a := x) (by subst hl; simp)
    obtain ⟨hnl, vc, rfl, hvv⟩ := hvc
    have hw : IntKind.i64.wrap ((pre.length : Int) + 1) = ((pre ++ [x]).length : Int) := by rw [Z0l]; simp; omega
    have hkl := Z3w elem
    have hkn := Z3w (vStr x.name)
    have hsl := sign_len x.val
    obtain ⟨qn, n1, n2⟩ := run_kStr hnl
    obtain ⟨qs, s1, s2⟩ := run_rSign hvv hxm
    obtain ⟨qe, j1, j2⟩ := run_k hv
    have pn := n2.pl
    have ps := s2.pl
    have pe := j2.pl
    obtain ⟨v1, S1, a1, a2, a3⟩ := (AB.lit st [6, UInt8.ofNat (elem.kind % 256).toNat]).app (t := kB (vStr x.name)) (by simp; omega)
    have G1 : Grow st .nilSl S1 v1 := grow_lit a3
    obtain ⟨v2, S2, b1, b2, b3⟩ := a2.app (t := signB x.val) (by simp; omega)
    have G2 := G1.trans b3
    obtain ⟨v3, S3, c1, c2, c3⟩ := b2.app (t := kB elem) (by simp; omega)
    have G3 := G2.trans c3
    have hkey : [6, UInt8.ofNat (elem.kind % 256).toNat] ++ kB (vStr x.name) ++ signB x.val ++ kB elem = propKey elem.kind x ++ kB elem := rfl
    have hA3 : EA S3 v acc := hA.keep G3.2.1 (fun u hu => G3.2.2.2 u hu (by simp [Z15]))
    obtain ⟨v4, S4, d1, d2, d3⟩ := hA3.app (p := v3) (q := .nilSl) (x := propEnt elem x) (BO.of c2) (.inl .nil) (by omega)
    have n0 : Z15 v ≠ some t0 := fun h => (hA.tok h).2 hg0
    have g3 := Grow.old G3 hlt0 hg0
    have g4 : S4.get t0 = some (.var ecs) := (d3.2.2.2 t0 (by have := G3.2.1; omega) n0).trans g3
    have hi := ih (pre ++ [x]) S4 v4 (acc ++ [propEnt elem x]) (by rw [hl]; simp) d2 (by simp; omega) g4 (by have := G3.2.1; have := d3.2.1; omega)
    have hall := Z1o (Q := fun s => s.get t0 = some (.var ecs)) (a := S1) (r := [S2, S3]) ⟨Grow.old G1 hlt0 hg0, Grow.old G2 hlt0 hg0, g3⟩
    have hat' := at_step (kk := .i64) hat
    have hvl := hvv.len4
    have hld := load_step (load_val (name := .str x.name) hvl)
    have hplv := hvv.pl
    have hel := hv.len4
    have hecp := hv.pl
    have hb1 := build_kv (w := .nilSl) (t := []) c2
    have hb2 := buildSl_kv c2
    have hok2 : okEls 2 [[v3, .nilSl]] = true := by
      have h1 := (BO.of c2).one
      have h0 : PV.one .nilSl = true := rfl
      simp only [okEls, List.all_cons, List.all_nil, h1, h0]
      rfl
    refine Z08 ?_
    repeat' first | ((with_reducible show V _ _ _ _ _ _); first | refine Z2d hlt rfl rfl ?_ | refine V_C (mkC [7, 10] [some 46, some 49] S1 [S2, S3] none) rfl rfl ?_ | refine V_monoP (V_re rfl hi ⟨rfl, rfl, rfl, rfl, some_int hw, trivial⟩) ?_ | refine V_O rfl ?_) | ((with_reducible show VO _ _ _ _ _ _ _); first | refine Z0p rfl e1 e2 ?_ | refine Z2q rfl rfl hat ?_ | refine Z0u rfl rfl n1 ?_ | refine Z09 rfl rfl (Z0j n2) (Z04 _) (by decide) (by decide) a1 ?_ | refine Z02 (hb1 _ _ _ rfl) ?_ | refine Z02 (hb2 _ _ _ rfl) ?_ | refine Z09 rfl rfl rfl hok2 (by decide) (by decide) d1 ?_ | refine Z02 rfl ?_ | refine Z03 ?_) | ((with_reducible show Go.AM.VC _ _ _ _ _ _ _ _ _ _); first | refine Z3n rfl rfl (fun _ => hat' _ _ rfl rfl) ?_ | refine Z3n rfl rfl (fun _ => hld _ _ rfl) ?_ | refine Z42 rfl rfl rfl hall hel ?_ | refine C_call rfl rfl rfl rfl (fun _ => Z1a (by (repeat' (first | exact Pl.int _ _ | exact Pl.bool _ | exact Pl.str _ | exact Pl.nilSl | exact Z1d | refine Z0m ?_ ?_ | refine Pl.tuple _ ?_ | refine Pl.agg _ ?_ | refine Pl.func _ _ ?_ | assumption | refine Pl.iptr _ _ ?_ | exact Z1h | refine Z11 ?_ ?_ | refine Pl.sl _ _ ?_)); first | done | fail)) s1 ?_ | refine C_call rfl rfl rfl rfl (fun _ => Z1a (by (repeat' (first | exact Pl.int _ _ | exact Pl.bool _ | exact Pl.str _ | exact Pl.nilSl | exact Z1d | refine Z0m ?_ ?_ | refine Pl.tuple _ ?_ | refine Pl.agg _ ?_ | refine Pl.func _ _ ?_ | assumption | refine Pl.iptr _ _ ?_ | exact Z1h | refine Z11 ?_ ?_ | refine Pl.sl _ _ ?_)); first | done | fail)) j1 ?_ | refine C_append rfl rfl rfl rfl rfl rfl rfl rfl rfl (Z0j s2) (Z04 _) (by decide) (by decide) b1 ?_ | refine C_append rfl rfl rfl rfl rfl rfl rfl rfl rfl (Z0j j2) (Z04 _) (by decide) (by decide) c1 ?_ | refine Z3n rfl rfl (fun _ => rfl) ?_ | refine C_nil rfl rfl ?_)
    rintro y e st' ⟨rfl, b', rfl, r1⟩
    exact ⟨rfl, b', rfl, by rw [List.map_cons, ← List.singleton_append (l := rest.map _), ← List.append_assoc]; exact r1⟩
set_option maxHeartbeats 4000000 in
theorem run_rIndexes {elem : Val} {ecs : List PV} {s : List UInt8} {l : List Prp} {p : PV} (hv : VC elem ecs) (hs : s.length ≤ 140737488355328) (hp : LR PpC p l) (hpm : ∀ x ∈ l, (putM x.val).length ≤ 100000000000000) (hll : l.length ≤ 100000000000) : ∃ q, T.R (.call n_rambleref11_indexes [.agg ecs, .str s, p] q) ∧ LR EnC q (idxK elem s l) := by
  obtain ⟨e1, e2, e3⟩ := hp.len
  have hkl := Z3w elem
  have hks := Z3w (vStr s)
  obtain ⟨qn, n1, n2⟩ := run_kStr hs
  obtain ⟨qe, j1, j2⟩ := run_k hv
  have pn := n2.pl
  have pe := j2.pl
  have hg0 : (emptySt.new (.var ecs)).get 0 = some (.var ecs) := rfl
  generalize hS : emptySt.new (.var ecs) = S1 at hg0
  have hS1n : S1.next = 1 := by rw [← hS]; rfl
  obtain ⟨v2, S2, b1, b2, b3⟩ := (AB.lit S1 [5, UInt8.ofNat (elem.kind % 256).toNat]).app (t := kB (vStr s)) (by simp; omega)
  have G2 : Grow S1 .nilSl S2 v2 := grow_lit b3
  obtain ⟨v3, S3, c1, c2, c3⟩ := b2.app (t := kB elem) (by simp; omega)
  have G3 := G2.trans c3
  have g2 := Grow.old G2 (by omega) hg0
  have g3 := Grow.old G3 (by omega) hg0
  have hall := Z1o (Q := fun s => s.get 0 = some (.var ecs)) (a := S1) (r := [S2, S3]) ⟨hg0, g2, g3⟩
  have hEA : EA S3 (.sl [[v3, .nilSl]] true) [(labelK elem.kind s ++ kB elem, [])] := ⟨_, (EntsR.nil _).snoc (p := v3) (q := .nilSl) (x := (labelK elem.kind s ++ kB elem, [])) (BO.of c2) (.inl .nil), .inl rfl⟩
  have hlp := ridx_loop hp hpm hv hll (t0 := 0) l [] S3 (.sl [[v3, .nilSl]] true) [(labelK elem.kind s ++ kB elem, [])] rfl hEA (by simp) g3 (by have := G3.2.1; omega)
  obtain ⟨s2, q2, hc2, hp2⟩ := hv.form2
  have hel := hv.len4
  have hecp := hv.pl
  have w1 := wrapU8 elem.kind
  have hb1 := build_kv (w := .nilSl) (t := []) c2
  have hb2 := buildSl_kv c2
  subst hc2
  refine Z24 rfl rfl ?_
  repeat' first | ((with_reducible show V _ _ _ _ _ _); first | refine V_C (mkC [4, 7] [some 18, some 21] S1 [S2, S3] none) rfl rfl ?_ | refine V_cutTo rfl hlp ⟨rfl, rfl, rfl, rfl, rfl, trivial⟩ ?_ | refine V_O rfl ?_) | ((with_reducible show VO _ _ _ _ _ _ _); first | refine O_alloc2 hS ?_ | refine Z0a rfl hg0 rfl ?_ | refine Z0q w1 rfl ?_ | refine Z02 rfl ?_ | refine Z03 ?_) | ((with_reducible show Go.AM.VC _ _ _ _ _ _ _ _ _ _); first | refine C_call rfl rfl rfl rfl (fun _ => Z1a (by (repeat' (first | exact Pl.int _ _ | exact Pl.bool _ | exact Pl.str _ | exact Pl.nilSl | exact Z1d | refine Z0m ?_ ?_ | refine Pl.tuple _ ?_ | refine Pl.agg _ ?_ | refine Pl.func _ _ ?_ | assumption | refine Pl.iptr _ _ ?_ | exact Z1h | refine Z11 ?_ ?_ | refine Pl.sl _ _ ?_)); first | done | fail)) n1 ?_ | refine C_call rfl rfl rfl rfl (fun _ => Z1a (by (repeat' (first | exact Pl.int _ _ | exact Pl.bool _ | exact Pl.str _ | exact Pl.nilSl | exact Z1d | refine Z0m ?_ ?_ | refine Pl.tuple _ ?_ | refine Pl.agg _ ?_ | refine Pl.func _ _ ?_ | assumption | refine Pl.iptr _ _ ?_ | exact Z1h | refine Z11 ?_ ?_ | refine Pl.sl _ _ ?_)); first | done | fail)) j1 ?_ | refine Z42 rfl rfl rfl hall hel ?_ | refine C_append rfl rfl rfl rfl rfl rfl rfl rfl rfl (Z0j n2) (Z04 _) (by decide) (by decide) b1 ?_ | refine C_append rfl rfl rfl rfl rfl rfl rfl rfl rfl (Z0j j2) (Z04 _) (by decide) (by decide) c1 ?_ | refine Z3n rfl rfl (fun _ => hb1 _ _ _ rfl) ?_ | refine Z3n rfl rfl (fun _ => hb2 _ _ _ rfl) ?_ | refine Z3n rfl rfl (fun _ => rfl) ?_ | refine C_nil rfl rfl ?_)
  rintro x e st' ⟨rfl, v', rfl, r1⟩
  obtain ⟨q, w1, w2⟩ := r1.view (by simp; omega)
  repeat' first | refine Z2c rfl rfl w1 ?_ | refine V_O rfl ?_ | refine Z02 rfl ?_ | refine Z03 ?_
  exact w2
set_option maxHeartbeats 4000000 in
theorem run_rVertex {x : Vtx} {cs : List PV} (hx : VtC x cs) (hb : BdK x.label x.props) : ∃ q, T.R (.call n_rambleref11_Vertex [.agg cs] q) ∧ LR EnC q (vtxK x) := by
  obtain ⟨hid, hlab, p, rfl, hp⟩ := hx
  obtain ⟨hpm, hlen, hlb, hll⟩ := hb
  have hpp := hp.pl (fun a _ cs h => h.pl)
  obtain ⟨e1, e2, e3⟩ := hp.len
  have hi := run_rid (n := x.id)
  by_cases hid2 : idB x.id = true
  · have hvK : vtxK x = (Z35 (vVtx x.id), Z2s x.label ++ Z20 x.props) :: idxK (vVtx x.id) x.label x.props := by simp [vtxK, hid2]
    rw [hvK]
    rw [hid2] at hi
    have hv := vc_vtx hid
    obtain ⟨qk, k1, k2⟩ := run_rKey hv
    obtain ⟨qt, t1, t2⟩ := call_rLab (.nil) (s := []) (t := x.label) (by simp only [List.length_nil]; omega) hlab
    rw [List.nil_append] at t2
    obtain ⟨qp, p1, p2⟩ := call_rProps t2 hp (by omega)
    obtain ⟨qi, i1, i2⟩ := run_rIndexes hv hlab hp hpm hll
    have hel : LR EnC qi (idxK (vVtx x.id) x.label x.props) := i2
    have hpk := k2.pl
    have hpt := t2.pl
    have hpq := p2.pl
    have hpi := hel.pl (fun a _ cs h => h.pl)
    have hV := run_rVtx x.id
    generalize hS : ((emptySt.new (.var [.int .i64 x.id, .str x.label, p])).new (.var [.int .i64 0, .int .i64 0, .str [], .nilSl])).put 1 (.var [.int .i64 6, .int .i64 x.id, .str [], .nilSl]) = S1
    have g0 : S1.get 0 = some (.var [.int .i64 x.id, .str x.label, p]) := by rw [← hS]; rfl
    have g1 : S1.get 1 = some (.var [.int .i64 6, .int .i64 x.id, .str [], .nilSl]) := by rw [← hS]; rfl
    have hst : storeAt ((emptySt.new (.var [.int .i64 x.id, .str x.label, p])).new (.var [.int .i64 0, .int .i64 0, .str [], .nilSl])) (.ptr 1 0) (.agg [.int .i64 6, .int .i64 x.id, .str [], .nilSl]) = some S1 := by rw [← hS]; rfl
    have hq1 : BO S1 qk (Z35 (vVtx x.id)) := .inl k2
    have hq2 : BO S1 qp (Z2s x.label ++ Z20 x.props) := .inl p2
    have hb1 := build_pq hq1 hq2
    have hbs : ∀ (look : Nat → Option Tok) (e : EC), e.get 20 = some (.agg [qk, qp]) → Z0v look e (.buildSl 2 [[.nilSl, .nilSl]] [(0, .t 20)]) = some (.sl [[qk, qp]] true) := fun look e he => by
      have h1 := hq1.one
      have h2 := hq2.one
      simp only [Z0v, Z3z, elsOf, Opd.get, he]
      simp [Z23, Z1i, PV.cells, PV.isJunk, h1, h2]
    have hE : EntsR S1 [[qk, qp]] [(Z35 (vVtx x.id), Z2s x.label ++ Z20 x.props)] := (EntsR.nil S1).snoc (p := qk) (q := qp) (x := (Z35 (vVtx x.id), Z2s x.label ++ Z20 x.props)) hq1 hq2
    obtain ⟨src, v3, S3, a1, a2, a3, a4, a5⟩ := ea_app hE hel (by simp [idxK]) (by rw [idx_len]; simp; omega)
    obtain ⟨q, w1, w2⟩ := a4.view (by rw [List.length_append, idx_len]; simp; omega)
    refine Z24 rfl rfl ?_
    repeat' first | ((with_reducible show V _ _ _ _ _ _); first | refine Z2c rfl rfl w1 ?_ | refine V_O rfl ?_ | refine Z1e rfl rfl ?_ | refine V_D rfl ?_) | ((with_reducible show VO _ _ _ _ _ _ _); first | refine Z0u rfl rfl hi ?_ | refine Z0u rfl rfl hV ?_ | refine Z0u rfl rfl i1 ?_ | refine Z0b rfl rfl rfl rfl rfl hst ?_ | refine Z1p rfl g1 rfl ?_ | refine Z0a rfl g0 rfl ?_ | refine Z09 rfl rfl a1 a2 (by decide) (by decide) a3 ?_ | refine Z02 rfl ?_ | refine Z05 rfl ?_ | refine Z03 ?_) | ((with_reducible show VD _ _ _ _ _ _ _); first | refine D_loadW rfl g1 (Nat.le_refl 4) rfl ?_ | refine D_loadV rfl g0 rfl ?_ | refine D_cA rfl rfl k1 ?_ | refine D_cA rfl rfl t1 ?_ | refine D_cA rfl rfl p1 ?_ | refine Z1b (hb1 _ _ _ _ rfl rfl) ?_ | refine Z1b (hbs _ _ rfl) ?_ | refine Z1b rfl ?_ | refine D_nil' ?_)
    exact w2
  · have hvK : vtxK x = [] := by simp [vtxK, hid2]
    rw [hvK]
    rw [show idB x.id = false by simpa using hid2] at hi
    refine Z24 rfl rfl ?_
    repeat' first | ((with_reducible show V _ _ _ _ _ _); first | refine Z2c rfl rfl (Pl.view .nilSl) ?_ | refine V_O rfl ?_ | refine Z16 rfl rfl ?_) | ((with_reducible show VO _ _ _ _ _ _ _); first | refine Z0u rfl rfl hi ?_ | refine Z02 rfl ?_ | refine Z05 rfl ?_ | refine Z03 ?_)
    exact .inl ⟨rfl, rfl⟩
end Go.Proofs.YtgdjnlopdpjnaaaGreatDoor
set_option linter.unusedVariables false
set_option linter.unusedSimpArgs false
namespace Go.Proofs.YtgdjnlopdpjnaaaGreatDoor
open Go Go.AM Go.RowKit
theorem run_beside {k : UInt8} {n e : Int} {s : List UInt8} (hn : I64 n) (he : I64 e) (hs : s.length ≤ 140737488355328) : ∃ q, T.R (.call n_rambleref11_beside [.int .u8 k.toNat, .int .i64 n, .str s, .int .i64 e] q) ∧ BV q (Z1v k n s ++ kB (vEdg e)) := by
  obtain ⟨qv, v1, v2⟩ := run_k (vc_vtx hn)
  obtain ⟨qe, e1, e2⟩ := run_k (vc_edg he)
  obtain ⟨qs, s1, s2⟩ := run_kStr hs
  have pv := v2.pl
  have pe := e2.pl
  have ps := s2.pl
  have l1 := Z3w (vVtx n)
  have l2 := Z3w (vEdg e)
  have l3 := Z3w (vStr s)
  have rv := run_rVtx n
  have re := run_rEdg e
  obtain ⟨w1, S1, a1, a2, a3⟩ := (AB.lit emptySt [k]).app (t := kB (vVtx n)) (by simp; omega)
  obtain ⟨w2, S2, b1, b2, b3⟩ := a2.app (t := kB (vStr s)) (by simp; omega)
  obtain ⟨w3, S3, c1, c2, c3⟩ := b2.app (t := kB (vEdg e)) (by simp; omega)
  have hkey : [k] ++ kB (vVtx n) ++ kB (vStr s) ++ kB (vEdg e) = Z1v k n s ++ kB (vEdg e) := by simp [Z1v]
  rw [hkey] at c2
  refine Z24 rfl rfl ?_
  repeat' first | refine V_O rfl ?_ | ((with_reducible show VO _ _ _ _ _ _ _); first | refine Z0u rfl rfl rv ?_ | refine Z0u rfl rfl re ?_ | refine Z0u rfl rfl v1 ?_ | refine Z0u rfl rfl e1 ?_ | refine Z0u rfl rfl s1 ?_ | refine Z09 rfl rfl (Z0j v2) (Z04 _) (by decide) (by decide) a1 ?_ | refine Z09 rfl rfl (Z0j s2) (Z04 _) (by decide) (by decide) b1 ?_ | refine Z09 rfl rfl (Z0j e2) (Z04 _) (by decide) (by decide) c1 ?_ | refine Z02 rfl ?_ | refine Z03 ?_) | refine ab_fin c2 rfl rfl
set_option maxHeartbeats 8000000 in
theorem run_rEdge {x : Lnk} {cs : List PV} (hx : LkC x cs) (hb : BdK x.label x.props) : ∃ q, T.R (.call n_rambleref11_Edge [.agg cs] q) ∧ LR EnC q (lnkK x) := by
  obtain ⟨hid, hlab, hout, hinto, p, rfl, hp⟩ := hx
  obtain ⟨hpm, hlen, hlb, hll⟩ := hb
  have hpp := hp.pl (fun a _ cs h => h.pl)
  have i1 := run_rid (n := x.id)
  have i2 := run_rid (n := x.out)
  have i3 := run_rid (n := x.into)
  cases h1 : idB x.id with
  | false =>
    have hvK : lnkK x = [] := by simp [lnkK, h1]
    rw [hvK]
    rw [h1] at i1
    refine Z24 rfl rfl ?_
    repeat' first | ((with_reducible show V _ _ _ _ _ _); first | refine Z2c rfl rfl (Pl.view .nilSl) ?_ | refine V_O rfl ?_ | refine Z16 rfl rfl ?_) | ((with_reducible show VO _ _ _ _ _ _ _); first | refine Z0u rfl rfl i1 ?_ | refine Z02 rfl ?_ | refine Z05 rfl ?_ | refine Z03 ?_ | refine Z1j rfl rfl ?_)
    exact .inl ⟨rfl, rfl⟩
  | true =>
    rw [h1] at i1
    cases h2 : idB x.out with
    | false =>
      have hvK : lnkK x = [] := by simp [lnkK, h2]
      rw [hvK]
      rw [h2] at i2
      refine Z24 rfl rfl ?_
      repeat' first | ((with_reducible show V _ _ _ _ _ _); first | refine Z2c rfl rfl (Pl.view .nilSl) ?_ | refine V_O rfl ?_ | refine Z16 rfl rfl ?_) | ((with_reducible show VO _ _ _ _ _ _ _); first | refine Z0u rfl rfl i1 ?_ | refine Z0u rfl rfl i2 ?_ | refine Z02 rfl ?_ | refine Z05 rfl ?_ | refine Z03 ?_ | refine Z10 rfl ?_ | refine Z1j rfl rfl ?_)
      exact .inl ⟨rfl, rfl⟩
    | true =>
      rw [h2] at i2
      cases h3 : idB x.into with
      | false =>
        have hvK : lnkK x = [] := by simp [lnkK, h3]
        rw [hvK]
        rw [h3] at i3
        refine Z24 rfl rfl ?_
        repeat' first | ((with_reducible show V _ _ _ _ _ _); first | refine Z2c rfl rfl (Pl.view .nilSl) ?_ | refine V_O rfl ?_ | refine Z16 rfl rfl ?_) | ((with_reducible show VO _ _ _ _ _ _ _); first | refine Z0u rfl rfl i1 ?_ | refine Z0u rfl rfl i2 ?_ | refine Z0u rfl rfl i3 ?_ | refine Z02 rfl ?_ | refine Z05 rfl ?_ | refine Z03 ?_ | refine Z10 rfl ?_)
        exact .inl ⟨rfl, rfl⟩
      | true =>
        rw [h3] at i3
        rw [lnkK_ok h1 h2 h3]
        have hv := vc_edg hid
        have hl1 : (Z2g x.out).length ≤ 10 := Z1r _ _
        have hl2 : (Z2g x.into).length ≤ 10 := Z1r _ _
        obtain ⟨qk, k1, k2⟩ := run_rKey hv
        obtain ⟨qa, a1, a2⟩ := call_rNum (.nil) (s := []) (by simp) hout
        rw [List.nil_append] at a2
        obtain ⟨qb, b1, b2⟩ := call_rNum a2 (by omega) hinto
        obtain ⟨qt, t1, t2⟩ := call_rLab b2 (t := x.label) (by simp only [List.length_append]; omega) hlab
        obtain ⟨qp, p1, p2⟩ := call_rProps t2 hp (by simp only [List.length_append]; omega)
        obtain ⟨qo, o1, o2⟩ := run_beside (k := 3) hout hid hlab
        obtain ⟨qn, n1, n2⟩ := run_beside (k := 4) hinto hid hlab
        obtain ⟨qm, m1, m2⟩ := call_rNum (.nil) (s := []) (by simp) hinto
        rw [List.nil_append] at m2
        obtain ⟨qi, j1, j2⟩ := run_rIndexes hv hlab hp hpm hll
        have hel : LR EnC qi (idxK (vEdg x.id) x.label x.props) := j2
        have pk := k2.pl
        have pa := a2.pl
        have pb := b2.pl
        have pt := t2.pl
        have pp := p2.pl
        have po := o2.pl
        have pn := n2.pl
        have pm := m2.pl
        have hpi := hel.pl (fun a _ cs h => h.pl)
        have hV := run_rEdg x.id
        generalize hS : ((emptySt.new (.var [.int .i64 x.id, .str x.label, .int .i64 x.out, .int .i64 x.into, p])).new (.var [.int .i64 0, .int .i64 0, .str [], .nilSl])).put 1 (.var [.int .i64 7, .int .i64 x.id, .str [], .nilSl]) = S1
        have g0 : S1.get 0 = some (.var [.int .i64 x.id, .str x.label, .int .i64 x.out, .int .i64 x.into, p]) := by rw [← hS]; rfl
        have g1 : S1.get 1 = some (.var [.int .i64 7, .int .i64 x.id, .str [], .nilSl]) := by rw [← hS]; rfl
        have hst : storeAt ((emptySt.new (.var [.int .i64 x.id, .str x.label, .int .i64 x.out, .int .i64 x.into, p])).new (.var [.int .i64 0, .int .i64 0, .str [], .nilSl])) (.ptr 1 0) (.agg [.int .i64 7, .int .i64 x.id, .str [], .nilSl]) = some S1 := by rw [← hS]; rfl
        have hq1 : BO S1 qk (Z35 (vEdg x.id)) := .inl k2
        have hq2 : BO S1 qp (Z2g x.out ++ Z2g x.into ++ Z2s x.label ++ Z20 x.props) := .inl p2
        have hq3 : BO S1 qo (Z1v 3 x.out x.label ++ kB (vEdg x.id)) := .inl o2
        have hq4 : BO S1 qm (Z2g x.into) := .inl m2
        have hq5 : BO S1 qn (Z1v 4 x.into x.label ++ kB (vEdg x.id)) := .inl n2
        have hq6 : BO S1 qa (Z2g x.out) := .inl a2
        have c1 := build_pq hq1 hq2
        have c2 := build_pq hq3 hq4
        have c3 := build_pq hq5 hq6
        have c4 := build_3 hq1 hq2 hq3 hq4 hq5 hq6
        have hE : EntsR S1 [[qk, qp], [qo, qm], [qn, qa]] [(Z35 (vEdg x.id), Z2g x.out ++ Z2g x.into ++ Z2s x.label ++ Z20 x.props), (Z1v 3 x.out x.label ++ kB (vEdg x.id), Z2g x.into), (Z1v 4 x.into x.label ++ kB (vEdg x.id), Z2g x.out)] :=
          (((EntsR.nil S1).snoc (x := (Z35 (vEdg x.id), Z2g x.out ++ Z2g x.into ++ Z2s x.label ++ Z20 x.props)) hq1 hq2).snoc (x := (Z1v 3 x.out x.label ++ kB (vEdg x.id), Z2g x.into)) hq3 hq4).snoc (x := (Z1v 4 x.into x.label ++ kB (vEdg x.id), Z2g x.out)) hq5 hq6
        obtain ⟨src, v5, S5, d1, d2, d3, d4, d5⟩ := ea_app hE hel (by simp [idxK]) (by rw [idx_len]; simp; omega)
        obtain ⟨q, f1, f2⟩ := d4.view (by rw [List.length_append, idx_len]; simp; omega)
        refine Z24 rfl rfl ?_
        repeat' first | ((with_reducible show V _ _ _ _ _ _); first | refine Z2c rfl rfl f1 ?_ | refine V_O rfl ?_ | refine Z1e rfl rfl ?_ | refine V_D rfl ?_) | ((with_reducible show VO _ _ _ _ _ _ _); first | refine Z0u rfl rfl i1 ?_ | refine Z0u rfl rfl i2 ?_ | refine Z0u rfl rfl i3 ?_ | refine Z0u rfl rfl hV ?_ | refine Z0u rfl rfl j1 ?_ | refine Z0b rfl rfl rfl rfl rfl hst ?_ | refine Z1p rfl g1 rfl ?_ | refine Z0a rfl g0 rfl ?_ | refine Z09 rfl rfl d1 d2 (by decide) (by decide) d3 ?_ | refine Z02 rfl ?_ | refine Z05 rfl ?_ | refine Z03 ?_ | refine Z10 rfl ?_) | ((with_reducible show VD _ _ _ _ _ _ _); first | refine D_loadW rfl g1 (Nat.le_refl 4) rfl ?_ | refine D_loadV rfl g0 rfl ?_ | refine D_cA rfl rfl k1 ?_ | refine D_cA rfl rfl a1 ?_ | refine D_cA rfl rfl b1 ?_ | refine D_cA rfl rfl t1 ?_ | refine D_cA rfl rfl p1 ?_ | refine D_cA rfl rfl o1 ?_ | refine D_cA rfl rfl n1 ?_ | refine D_cA rfl rfl m1 ?_ | refine Z1b (c1 _ _ _ _ rfl rfl) ?_ | refine Z1b (c2 _ _ _ _ rfl rfl) ?_ | refine Z1b (c3 _ _ _ _ rfl rfl) ?_ | refine Z1b (c4 _ _ _ _ _ rfl rfl rfl) ?_ | refine Z1b rfl ?_ | refine D_nil' ?_)
        exact f2
theorem toStr_step {p : PV} {s : List UInt8} (hp : BV p s) : ∀ (look : Nat → Option Tok) (e : EC) {i : Nat}, e.get i = some p → Z0v look e (.toStr (.t i)) = some (.str s) := fun look e i hi => by
  simp only [Z0v, get1, Opd.get, hi, hp.elems look, Option.bind_some, bytesOf_cells, Option.map_some]
theorem same_loop11 {l : List Ent} {p q : PV} (hp : LR EnC p l) (hq : LR EnC q l) : ∀ (rest pre : List Ent), l = pre ++ rest →
    V T (PE fun x e st' => st' = emptySt ∧ x = .exit 0) [.code (.loop lp_rambleref11_Same_0)] .normal (ecOf [(0, p), (1, q), (5, .int .i64 pre.length)]) emptySt := by
  obtain ⟨e1, e2, hbig⟩ := hp.len
  obtain ⟨f1, f2, _⟩ := hq.len
  intro rest
  induction rest with
  | nil =>
    intro pre hl
    have hlt : decide ((pre.length : Int) < l.length) = false := decide_eq_false (by subst hl; simp)
    refine Z08 ?_
    repeat' first | ((with_reducible show V _ _ _ _ _ _); first | refine Z2y hlt rfl rfl ?_ | refine V_out [] rfl trivial ⟨rfl, rfl⟩ | refine V_O rfl ?_) | ((with_reducible show VO _ _ _ _ _ _ _); first | refine Z0p rfl e1 e2 ?_ | refine Z02 rfl ?_ | refine Z03 ?_)
  | cons x rest ih =>
    intro pre hl
    have hlt : decide ((pre.length : Int) < l.length) = true := decide_eq_true (by subst hl; simp; omega)
    have hpl : pre.length < l.length := by subst hl; simp
    have hx : l[pre.length]? = some x := by subst hl; simp
    obtain ⟨cs, at1, p1, p2, rfl, a1, a2⟩ := hp.at (fun _ _ h => h.len2) hx
    obtain ⟨ds, at2, q1, q2, rfl, b1, b2⟩ := hq.at (fun _ _ h => h.len2) hx
    have hw : IntKind.i64.wrap ((pre.length : Int) + 1) = ((pre ++ [x]).length : Int) := by rw [Z0l]; simp; omega
    have hi := ih (pre ++ [x]) (by rw [hl]; simp)
    have s1 := toStr_step a1
    have s2 := toStr_step a2
    have s3 := toStr_step b1
    have s4 := toStr_step b2
    have d1 := ndec_is (p := x.1 = x.1) rfl
    have d2 := ndec_is (p := x.2 = x.2) rfl
    refine Z08 ?_
    repeat' first | ((with_reducible show V _ _ _ _ _ _); first | refine Z2d hlt rfl rfl ?_ | refine V_re rfl hi ⟨rfl, rfl, some_int hw, trivial⟩ | refine V_O rfl ?_ | refine Z1e rfl rfl ?_ | refine V_D rfl ?_) | ((with_reducible show VO _ _ _ _ _ _ _); first | refine Z0p rfl e1 e2 ?_ | refine Z02 rfl ?_ | refine Z03 ?_) | ((with_reducible show VD _ _ _ _ _ _ _); first | refine D_at rfl rfl at1 ?_ | refine D_at rfl rfl at2 ?_ | refine Z1b (s1 _ _ rfl) ?_ | refine Z1b (s2 _ _ rfl) ?_ | refine Z1b (s3 _ _ rfl) ?_ | refine Z1b (s4 _ _ rfl) ?_ | refine D_is d1 rfl ?_ | refine D_is d2 rfl ?_ | refine Z1b rfl ?_ | refine D_nil' ?_ | refine D_gT' rfl ?_)
theorem run_rSame {l : List Ent} {p q : PV} (hp : LR EnC p l) (hq : LR EnC q l) : T.R (.call n_rambleref11_Same [p, q] (.bool true)) := by
  obtain ⟨e1, e2, hbig⟩ := hp.len
  obtain ⟨f1, f2, _⟩ := hq.len
  have pp := hp.pl (fun a _ cs h => h.pl)
  have pq := hq.pl (fun a _ cs h => h.pl)
  have hl := same_loop11 hp hq l [] rfl
  have d1 := ndec_is (p := (l.length : Int) = (l.length : Int)) rfl
  refine Z0c rfl rfl ?_
  repeat' first | ((with_reducible show V _ _ _ _ _ _); first | refine V_cutTo rfl hl ⟨rfl, rfl, rfl, trivial⟩ ?_ | refine V_O rfl ?_ | refine Z1e rfl rfl ?_) | ((with_reducible show VO _ _ _ _ _ _ _); first | refine Z0p rfl e1 e2 ?_ | refine Z0p rfl f1 f2 ?_ | refine Z0q d1 rfl ?_ | refine Z02 rfl ?_ | refine Z03 ?_)
  rintro x e' st' ⟨rfl, rfl⟩
  repeat' first | refine V_O rfl ?_ | refine Z1t rfl rfl ?_ | refine Z02 rfl ?_ | refine Z03 ?_
  rfl
end Go.Proofs.YtgdjnlopdpjnaaaGreatDoor
set_option linter.unusedVariables false
set_option linter.unusedSimpArgs false
namespace Go.Proofs.YtgdjnlopdpjnaaaGreatDoor
open Go Go.AM Go.RowKit
theorem call_put3 {n m o : Int} (hn : I64 n) (hm : I64 m) (ho : I64 o) : ∃ q, T.R (.call n_keys_put [.nilSl, .sl [[.int .i64 n], [.int .i64 m], [.int .i64 o]] true] q) ∧ BV q (Z2g n ++ Z2g m ++ Z2g o) := by
  obtain ⟨v1, st1, h1, h2, h3⟩ := putG (st := emptySt) (b := .nilSl) (s := []) rfl (.inl ⟨rfl, rfl⟩) (by simp) _ (numU hn)
  rw [List.nil_append] at h2
  have hl : (Z2g n).length ≤ 10 := Z1r _ _
  have hl2 : (Z2g m).length ≤ 10 := Z1r _ _
  obtain ⟨v2, st2, k1, k2, k3⟩ := putG (st := ⟨st1.next, st1.next, st1.toks⟩) rfl (b := v1) (s := Z2g n) ((AccT.rb h2).keep (Nat.le_refl _) (fun _ _ => rfl)) (by omega) _ (numU hm)
  obtain ⟨v3, st3, j1, j2, j3⟩ := putG (st := ⟨st2.next, st2.next, st2.toks⟩) rfl (b := v2) (s := Z2g n ++ Z2g m) ((AccT.rb k2).keep (Nat.le_refl _) (fun _ _ => rfl)) (by rw [List.length_append]; omega) _ (numU ho)
  have e1 := put_e1 (n := n)
  have e2 := put_e2 hn
  have e3 := put_e1 (n := m)
  have e4 := put_e2 hm
  have e5 := put_e1 (n := o)
  have e6 := put_e2 ho
  have hA : AccT 1 ⟨0, st3.next, st3.toks⟩ v3 (Z00 (Z2g n ++ Z2g m ++ Z2g o)) := j2
  obtain ⟨q, w1, w2⟩ := AB.view (.inr hA)
  refine ⟨q, ?_, w2⟩
  have key : ∃ v' st', T.R (.raw n_keys_put [.nilSl, .sl [[.int .i64 n], [.int .i64 m], [.int .i64 o]] true] emptySt v' st') ∧ v' = v3 ∧ st' = ⟨0, st3.next, st3.toks⟩ := by
    refine Z1f rfl rfl ?_
    repeat' first | ((with_reducible show V _ _ _ _ _ _); first | refine V_loop rfl (Z08 ?_) | refine Z0k rfl rfl ⟨rfl, rfl⟩ | refine V_O rfl ?_ | refine Z16 rfl rfl ?_ | refine Z1e rfl rfl ?_) | ((with_reducible show VO _ _ _ _ _ _ _); first | refine O_idx [.int .i64 n] rfl rfl (by decide) rfl rfl ?_ | refine O_idx [.int .i64 m] rfl rfl (by decide) rfl rfl ?_ | refine O_idx [.int .i64 o] rfl rfl (by decide) rfl rfl ?_ | refine Z0q e1 rfl ?_ | refine Z0q e2 rfl ?_ | refine Z0q e3 rfl ?_ | refine Z0q e4 rfl ?_ | refine Z0q e5 rfl ?_ | refine Z0q e6 rfl ?_ | refine Z0s h1 h3.1 rfl rfl ?_ | refine Z0s k1 k3.1 rfl rfl ?_ | refine Z0s j1 j3.1 rfl rfl ?_ | refine Z02 rfl ?_ | refine Z03 ?_)
  obtain ⟨v', st', r1, rfl, rfl⟩ := key
  exact call_of_raw r1 w1
def metaE (last v e : Int) : Ent := ([0], Z2g last ++ Z2g v ++ Z2g e)
theorem run_kMeta {l v e : Int} (hl : I64 l) (hv : I64 v) (he : I64 e) : ∃ cs, T.R (.call n_keys_Meta [.int .i64 l, .int .i64 v, .int .i64 e] (.agg cs)) ∧ EnC (metaE l v e) cs := by
  obtain ⟨q, q1, q2⟩ := call_put3 hl hv he
  have qp := q2.pl
  have hbp := build_pq (st := emptySt) (st' := emptySt) (p := .sl [[.int .u8 0]] true) (s := [0]) (.inl (.sl [0] true)) (.inl q2)
  have hone := ones2 (st := emptySt) (p := .sl [[.int .u8 0]] true) (s := [0]) (.inl (.sl [0] true)) (.inl q2)
  have hst : storeAt (emptySt.new (.var [.nilSl, .nilSl])) (.ptr 0 0) (.agg [.sl [[.int .u8 0]] true, q]) = some ((emptySt.new (.var [.nilSl, .nilSl])).put 0 (.var [.sl [[.int .u8 0]] true, q])) := Z0i St.get_new rfl
  have hg : ((emptySt.new (.var [.nilSl, .nilSl])).put 0 (.var [.sl [[.int .u8 0]] true, q])).get 0 = some (.var [.sl [[.int .u8 0]] true, q]) := St.get_put
  have p0 : Pl (.sl [[.int .u8 0]] true) := (BV.sl [0] true).pl
  refine ⟨[.sl [[.int .u8 0]] true, q], ?_, _, _, rfl, .sl [0] true, q2⟩
  refine Z0c rfl rfl ?_
  repeat' first | refine Z2c rfl (resG_cell rfl hg rfl) (Pl.agg _ (Z0m p0 (Z0m qp Z1d))).view rfl | refine V_O rfl ?_ | ((with_reducible show VO _ _ _ _ _ _ _); first | refine Z0u rfl rfl q1 ?_ | refine Z02 (hbp _ _ _ _ rfl rfl) ?_ | refine Z0b rfl rfl hone rfl rfl hst ?_ | refine Z02 rfl ?_ | refine Z05 rfl ?_ | refine Z03 ?_)
theorem run_rMeta {l v e : Int} (hl : I64 l) (hv : I64 v) (he : I64 e) : ∃ cs, T.R (.call n_rambleref11_Meta [.int .i64 l, .int .i64 v, .int .i64 e] (.agg cs)) ∧ EnC (metaE l v e) cs := by
  obtain ⟨qa, a1, a2⟩ := call_rNum (.nil) (s := []) (by simp) hl
  rw [List.nil_append] at a2
  have h1 : (Z2g l).length ≤ 10 := Z1r _ _
  have h2 : (Z2g v).length ≤ 10 := Z1r _ _
  obtain ⟨qb, b1, b2⟩ := call_rNum a2 (by omega) hv
  obtain ⟨q, q1, q2⟩ := call_rNum b2 (by rw [List.length_append]; omega) he
  have pa := a2.pl
  have pb := b2.pl
  have qp := q2.pl
  have hbp := build_pq (st := emptySt) (st' := emptySt) (p := .sl [[.int .u8 0]] true) (s := [0]) (.inl (.sl [0] true)) (.inl q2)
  have hone := ones2 (st := emptySt) (p := .sl [[.int .u8 0]] true) (s := [0]) (.inl (.sl [0] true)) (.inl q2)
  have hst : storeAt (emptySt.new (.var [.nilSl, .nilSl])) (.ptr 0 0) (.agg [.sl [[.int .u8 0]] true, q]) = some ((emptySt.new (.var [.nilSl, .nilSl])).put 0 (.var [.sl [[.int .u8 0]] true, q])) := Z0i St.get_new rfl
  have hg : ((emptySt.new (.var [.nilSl, .nilSl])).put 0 (.var [.sl [[.int .u8 0]] true, q])).get 0 = some (.var [.sl [[.int .u8 0]] true, q]) := St.get_put
  have p0 : Pl (.sl [[.int .u8 0]] true) := (BV.sl [0] true).pl
  refine ⟨[.sl [[.int .u8 0]] true, q], ?_, _, _, rfl, .sl [0] true, q2⟩
  refine Z0c rfl rfl ?_
  repeat' first | refine Z2c rfl (resG_cell rfl hg rfl) (Pl.agg _ (Z0m p0 (Z0m qp Z1d))).view rfl | refine V_O rfl ?_ | ((with_reducible show VO _ _ _ _ _ _ _); first | refine Z0u rfl rfl a1 ?_ | refine Z0u rfl rfl b1 ?_ | refine Z0u rfl rfl q1 ?_ | refine Z02 (hbp _ _ _ _ rfl rfl) ?_ | refine Z0b rfl rfl hone rfl rfl hst ?_ | refine Z02 rfl ?_ | refine Z05 rfl ?_ | refine Z03 ?_)
theorem en_one {x : Ent} {cs : List PV} (h : EnC x cs) : LR EnC (.sl [cs] true) [x] := .inr ⟨[cs], true, rfl, by simp, rfl, fun j a ds h1 h2 => by
  cases j with
  | zero => simp at h1 h2; subst h1 h2; exact h
  | succ j => simp at h1⟩
theorem build_en {x : Ent} {cs : List PV} (h : EnC x cs) : ∀ (look : Nat → Option Tok) (e : EC) {i : Nat}, e.get i = some (.agg cs) → Z0v look e (.buildSl 2 [[.nilSl, .nilSl]] [(0, .t i)]) = some (.sl [cs] true) := fun look e i hi => by
  obtain ⟨p, q, rfl, h1, h2⟩ := h
  have o1 := bv_one h1
  have o2 := bv_one h2
  simp only [Z0v, Z3z, elsOf, Opd.get, hi]
  simp [Z23, Z1i, PV.cells, PV.isJunk, o1, o2]
set_option maxHeartbeats 8000000 in
theorem run_Entries {v : Vtx} {cv : List PV} (hv : VtC v cv) (bv : BdK v.label v.props) {e : Lnk} {ce : List PV} (he : LkC e ce) (be : BdK e.label e.props) {x : Val} {cx : List PV} (hx : VC x cx) (hxl : (putM x).length ≤ 100000000000000) {last n : Int} (hl : I64 last) (hn : I64 n) : T.R (.call n_ramblelaw11_KeysEntries [.agg cv, .agg ce, .agg cx, .int .i64 last, .int .i64 n] (.bool true)) := by
  have hbg := run_kBegun
  obtain ⟨qv, a1, a2⟩ := run_Vertex hv bv.1 (Nat.le_trans bv.2.1 (by decide)) bv.2.2.1 bv.2.2.2
  obtain ⟨rv, a3, a4⟩ := run_rVertex hv bv
  have s1 := run_rSame a2 a4
  obtain ⟨qe, b1, b2⟩ := edge_of he be
  obtain ⟨re, b3, b4⟩ := run_rEdge he be
  have s2 := run_rSame b2 b4
  obtain ⟨qs, c1, c2⟩ := (signR hx hxl).call
  obtain ⟨rs, c3, c4⟩ := run_rSign hx hxl
  have s3 := run_Equal c2 c4
  rw [decide_eq_true rfl] at s3
  have hm : I64 (IntKind.i64.wrap (n - 3)) := by rw [Z0l]; unfold I64; omega
  obtain ⟨cm, d1, d2⟩ := run_kMeta hl hn hm
  obtain ⟨cr, d3, d4⟩ := run_rMeta hl hn hm
  have s4 := run_rSame (en_one d2) (en_one d4)
  have bm := build_en d2
  have br := build_en d4
  have p1 := a2.pl (fun a _ cs h => h.pl)
  have p2 := a4.pl (fun a _ cs h => h.pl)
  have p3 := b2.pl (fun a _ cs h => h.pl)
  have p4 := b4.pl (fun a _ cs h => h.pl)
  have p5 := c2.pl
  have p6 := c4.pl
  have p7 := (en_one d2).pl (fun a _ cs h => h.pl)
  have p8 := (en_one d4).pl (fun a _ cs h => h.pl)
  obtain ⟨_, _, pp, rfl, hp⟩ := hv
  obtain ⟨_, _, _, _, pp', rfl, hp'⟩ := he
  have pl1 := hp.pl (fun a _ cs h => h.pl)
  have pl2 := hp'.pl (fun a _ cs h => h.pl)
  obtain ⟨s, w, rfl, hw⟩ := hx.form2
  generalize hS : ((emptySt.new (.var [.int .i64 v.id, .str v.label, pp])).new (.var [.int .i64 e.id, .str e.label, .int .i64 e.out, .int .i64 e.into, pp'])).new (.var [.int .i64 x.kind, .int .i64 x.n, .str s, w]) = S
  have g0 : S.get 0 = some (.var [.int .i64 v.id, .str v.label, pp]) := by rw [← hS]; rfl
  have g1 : S.get 1 = some (.var [.int .i64 e.id, .str e.label, .int .i64 e.out, .int .i64 e.into, pp']) := by rw [← hS]; rfl
  have g2 : S.get 2 = some (.var [.int .i64 x.kind, .int .i64 x.n, .str s, w]) := by rw [← hS]; rfl
  refine Z0c rfl rfl ?_
  repeat' first | ((with_reducible show V _ _ _ _ _ _); first | refine V_O rfl ?_ | refine Z1t rfl rfl ?_ | refine V_D rfl ?_) | ((with_reducible show VO _ _ _ _ _ _ _); first | refine O_alloc2 hS ?_ | refine Z02 rfl ?_ | refine Z05 rfl ?_ | refine Z03 ?_) | ((with_reducible show VD _ _ _ _ _ _ _); first | refine D_loadW rfl g0 (Nat.le_refl 3) rfl ?_ | refine D_loadW rfl g1 (Nat.le_refl 5) rfl ?_ | refine D_loadW rfl g2 (Nat.le_refl 4) rfl ?_ | refine D_cA rfl rfl hbg ?_ | refine D_cA rfl rfl a1 ?_ | refine D_cA rfl rfl a3 ?_ | refine D_cA rfl rfl s1 ?_ | refine D_cA rfl rfl b1 ?_ | refine D_cA rfl rfl b3 ?_ | refine D_cA rfl rfl s2 ?_ | refine D_cA rfl rfl c1 ?_ | refine D_cA rfl rfl c3 ?_ | refine D_cA rfl rfl s3 ?_ | refine D_cA rfl rfl d1 ?_ | refine D_cA rfl rfl d3 ?_ | refine D_cA rfl rfl s4 ?_ | refine Z1b (bm _ _ rfl) ?_ | refine Z1b (br _ _ rfl) ?_ | refine Z1b rfl ?_ | refine D_nil' ?_ | refine D_gT' rfl ?_)
  rfl
theorem putM_of {v : Val} (h : sizeV v ≤ 1048576) : (putM v).length ≤ 100000000000000 := by
  unfold putM
  split
  · have := putV_size v
    omega
  · simp
end Go.Proofs.YtgdjnlopdpjnaaaGreatDoor

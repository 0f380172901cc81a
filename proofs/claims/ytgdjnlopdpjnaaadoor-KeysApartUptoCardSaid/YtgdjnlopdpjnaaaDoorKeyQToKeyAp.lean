/- ramblelaw11.begun. · ramblelaw11.stands: a graph of one vertex, and of one vertex and an edge. · ramblelaw11.stands: the walk of the graph's check. · ramblelaw11.stands. · rambleref01.Put and Zig, rambleref03.put and Put. · Keys: what stands together (plain). · ramblelaw11.KeysTogether: the walk. · ramblelaw11.KeysApart: all keys of an element end in its own key. -/
import Derived.Test.YtgdjnlopdpjnaaaDoorKeyNToKeyO
import Derived.Test.YtgdjnlopdpjnaaaDoorKeyCToKeyI
set_option linter.unusedVariables false
set_option linter.unusedSimpArgs false
namespace Go.Proofs.YtgdjnlopdpjnaaaDoor
open Go Go.AM Go.RowKit
theorem run_rVtx (n : Int) : T.R (.call Z8h [.int .i64 n] (.agg [.int .i64 6, .int .i64 n, .str [], .nilSl])) := by
  refine Zo rfl rfl ?_
  repeat' first | refine Z3 rfl ?_ | refine Zl rfl rfl ?_ | ((with_reducible show VO _ _ _ _ _ _ _); first | refine Z0 rfl ?_ | refine Z9 rfl ?_ | refine Z4 ?_)
  rfl
theorem run_rEdg (n : Int) : T.R (.call Zb4 [.int .i64 n] (.agg [.int .i64 7, .int .i64 n, .str [], .nilSl])) := by
  refine Zo rfl rfl ?_
  repeat' first | refine Z3 rfl ?_ | refine Zl rfl rfl ?_ | ((with_reducible show VO _ _ _ _ _ _ _); first | refine Z0 rfl ?_ | refine Z9 rfl ?_ | refine Z4 ?_)
  rfl
def knows : List UInt8 := [107, 110, 111, 119, 115]
def begE : Lnk := ⟨3, knows, 1, 2, []⟩
def begX : List UInt8 := Z2k 3 1 knows ++ kB (Z61 3)
theorem begE_len : (Zh2 begE).length = 4 := by
  have h : idB begE.id = true ∧ idB begE.out = true ∧ idB begE.into = true := by decide
  simp only [Zh2, if_pos h, idxK, begE]
  rfl
theorem begE_one : (Zh2 begE)[1]? = some (begX, Z4k 2) := by rfl
theorem begK : Z41 (Z6l 1) = [1, 6, 128, 0, 0, 0, 0, 0, 0, 1] := by rfl
theorem begV : elemR begX (Z4k 2) = some (Z61 3, 2) := by kernel_rfl
theorem run_kBegun : T.R (.call Z9u [] (.bool true)) := by
  obtain ⟨q, h1, h2⟩ := run_Edge (x := begE) (cs := [.int .i64 3, .str knows, .int .i64 1, .int .i64 2, .nilSl]) ⟨by simp [I64, begE], by decide, by simp [I64, begE], by simp [I64, begE], .nilSl, rfl, .inl ⟨rfl, rfl⟩⟩ (by simp [begE]) (by decide) (by decide) (by decide)
  obtain ⟨e1, e2, e3⟩ := h2.len
  rw [begE_len] at e1
  have hqp := h2.pl (fun a _ cs h => h.pl)
  obtain ⟨cs, hat, pk, pv, rfl, c1, c2⟩ := h2.at (fun _ _ h => h.len2) begE_one
  have hpk := c1.pl
  have hpv := c2.pl
  have ho1 := Zbm c1
  have ho2 := Zbm c2
  obtain ⟨qk, k1, k2⟩ := (keyOneR (vc_vtx (n := 1) (by simp [I64]))).call
  rw [begK] at k2
  have hkp := k2.pl
  have heq := run_Equal k2 (.sl [1, 6, 128, 0, 0, 0, 0, 0, 0, 1] true)
  rw [decide_eq_true rfl] at heq
  have hpl10 := (BV.sl [1, 6, 128, 0, 0, 0, 0, 0, 0, 1] true).pl
  have hel := run_Elem c1 c2 (by decide) (by decide)
  rw [begV] at hel
  have hs := run_Same (vc_edg (n := 3) (by simp [I64])) (vc_edg (n := 3) (by simp [I64]))
  have hs0 : decide (Zbq (Z61 3) (Z61 3) = 0) = true := by decide
  rw [hs0] at hs
  have r1 := run_rVtx 1
  have r2 := run_rEdg 3
  have hcl : [pk, pv].length = 2 := rfl
  refine Zo rfl rfl ?_
  repeat' first | ((with_reducible show V _ _ _ _ _ _); first | refine Z3 rfl ?_ | refine Ze rfl rfl ?_ | refine Zl rfl rfl ?_ | refine V_D rfl ?_) | ((with_reducible show VO _ _ _ _ _ _ _); first | refine Z8 rfl rfl h1 ?_ | refine Z0r rfl e1 e2 ?_ | refine Z8 rfl rfl r1 ?_ | refine Z8 rfl rfl k1 ?_ | refine Z8 rfl rfl heq ?_ | refine Zh rfl rfl hat ?_ | refine Zfu rfl hcl ?_ | refine Z8 rfl rfl hel ?_ | refine Z0 rfl ?_ | refine Z9 rfl ?_ | refine Z4 ?_ | refine Zq rfl ?_) | ((with_reducible show VD _ _ _ _ _ _ _); first | refine D_cA rfl rfl r2 ?_ | refine D_cA rfl rfl hs ?_ | refine Z2g rfl ?_ | refine Zbn ?_ | refine D_gT' rfl ?_)
  rfl
end Go.Proofs.YtgdjnlopdpjnaaaDoor
namespace Go.Proofs.YtgdjnlopdpjnaaaDoor
open Go Go.AM Go.RowKit
theorem lr_one {α : Type} {R : α → List PV → Prop} {p : PV} {l : List α} (h : LR R p l) : PV.one p = true := by
  rcases h with ⟨rfl, _⟩ | ⟨xs, f, rfl, _⟩ <;> rfl
end Go.Proofs.YtgdjnlopdpjnaaaDoor
namespace Go.Proofs.YtgdjnlopdpjnaaaDoor
open Go Go.AM Go.RowKit
theorem O_alloc2 {T : Tb} {Q : Z59} {k : List Fr} {ρ : EC} {st S' : St} {l : List POp} {kill : List Nat} {d : Option Nat} {x : Opd} {p : PV} {cs : List PV} (hS : st.new (.var cs) = S') (h : VO T Q l kill k (ρ.sets d (.ptr st.next 0)) S') (hx : x.get ρ = some p := by rfl) (hj : p.isJunk = false := by rfl) (hc : p.cells = cs := by rfl) : VO T Q (⟨d, none, .box x⟩ :: l) kill k ρ st := by
  subst hS hc
  exact Z9 (by simp only [Z4a, hx, hj, if_true]) h
theorem may_vtx {n : Int} (h : idB n = true) : Zr 8 (Z6l n) = true := by
  simp only [idB, Bool.and_eq_true, decide_eq_true_eq] at h
  simp [Zr, Z6l, h.1, h.2]
theorem may_edg {n : Int} (h : idB n = true) : Zr 8 (Z61 n) = true := by
  simp only [idB, Bool.and_eq_true, decide_eq_true_eq] at h
  simp [Zr, Z61, h.1, h.2]
theorem kB_of {v : Val} (hm : Zr 8 v = true) (h4 : v.kind ≠ 4) (h5 : v.kind ≠ 5) : kB v = Z1a v := by
  have hk : Zbg [v] = .ok (Z1a v ++ []) := by
    simp only [Zbg, hm, if_true, h4, h5, or_self, if_false]
    rfl
  simp [kB, keyE, keyB, hk]
theorem kB_vtx {n : Int} (h : idB n = true) : kB (Z6l n) = Z1a (Z6l n) := kB_of (may_vtx h) (by simp [Z6l, Val.kind]) (by simp [Z6l, Val.kind])
theorem kB_edg {n : Int} (h : idB n = true) : kB (Z61 n) = Z1a (Z61 n) := kB_of (may_edg h) (by simp [Z61, Val.kind]) (by simp [Z61, Val.kind])
theorem good_vtx {n : Int} (h : idB n = true) : Good (Z6l n) := ⟨may_vtx h, by simp [Z6l, Val.kind], by simp [Z6l, Val.kind]⟩
theorem vtx_begins {a b : Int} (ha : idB a = true) (hb : idB b = true) (c : UInt8) (x : List UInt8) : decide ((c :: kB (Z6l a) ++ []) <+: (c :: kB (Z6l b) ++ x)) = decide (b = a) := by
  rw [decide_eq_decide]
  constructor
  · rintro ⟨t, ht⟩
    rw [kB_vtx ha, kB_vtx hb, List.append_nil] at ht
    simp only [List.cons_append, List.cons.injEq, true_and] at ht
    have h1 := take_key (good_vtx ha) (idB_true ha) t
    have h2 := take_key (good_vtx hb) (idB_true hb) x
    rw [ht, h2] at h1
    injection h1 with h1
    injection h1
  · rintro rfl
    exact ⟨x, by simp⟩
theorem D_loadW {T : Tb} {Q : Z59} {k : List Fr} {ρ : EC} {st : St} {l : List POp} {kill : List Nat} {d : Option Nat} {a : Opd} {t off n : Nat} {cs ds : List PV} (ha : a.get ρ = some (.ptr t off)) (hg : st.get t = some (.var cs)) (hl : off + n ≤ cs.length) (hd : (cs.drop off).take n = ds) (h : VD T Q l kill k (ρ.sets d (.agg ds)) st) : VD T Q (⟨d, none, .load n true a⟩ :: l) kill k ρ st :=
  Z2g (by
    simp only [Zg, Z62, ha, loadAt, behind, hg, Option.bind_some, slice?]
    rw [if_pos hl]
    simp [hd]) h
theorem lnkK_ok {x : Lnk} (h1 : idB x.id = true) (h2 : idB x.out = true) (h3 : idB x.into = true) : Zh2 x = (Z41 (Z61 x.id), Z4k x.out ++ Z4k x.into ++ Z49 x.label ++ Z2o x.props) :: (Z2k 3 x.out x.label ++ kB (Z61 x.id), Z4k x.into) :: (Z2k 4 x.into x.label ++ kB (Z61 x.id), Z4k x.out) :: idxK (Z61 x.id) x.label x.props := by simp [Zh2, h1, h2, h3]
theorem lnkK_len {x : Lnk} : (Zh2 x = [] ) ∨ ((Zh2 x).length = 4 + x.props.length ∧ idB x.id = true ∧ idB x.out = true ∧ idB x.into = true) := by
  by_cases h : idB x.id = true ∧ idB x.out = true ∧ idB x.into = true
  · right
    refine ⟨?_, h⟩
    rw [lnkK_ok h.1 h.2.1 h.2.2]
    simp [idxK]
    omega
  · left
    simp only [Zh2, if_neg h]
def BdK (label : List UInt8) (l : List Prp) : Prop := (∀ y ∈ l, (Zei y.val).length ≤ 100000000000000) ∧ (Z49 label).length + (Z2o l).length ≤ 10000000000 ∧ label.length ≤ 1000000000000 ∧ l.length ≤ 100000000000
theorem edge_of {x : Lnk} {cs : List PV} (hx : LkC x cs) (hb : BdK x.label x.props) : ∃ q, T.R (.call Zey [.agg cs] q) ∧ LR EnC q (Zh2 x) := run_Edge hx hb.1 hb.2.1 hb.2.2.1 hb.2.2.2
theorem Zc1 {n : Int} (h : idB n = true) : (kB (Z6l n)).length = 9 ∧ (kB (Z61 n)).length = 9 := by
  rw [kB_vtx h, kB_edg h]
  simp [Z1a, Z6l, Z61, Z1r]
theorem kBv_inj {a b : Int} (ha : idB a = true) (hb : idB b = true) (h : kB (Z6l a) = kB (Z6l b)) : a = b := by
  have h1 := vtx_begins ha hb 0 []
  rw [h, decide_eq_true (List.prefix_refl _)] at h1
  exact (of_decide_eq_true h1.symm).symm
theorem kBve {a b : Int} (ha : idB a = true) (hb : idB b = true) : kB (Z6l a) ≠ kB (Z61 b) := by
  rw [kB_vtx ha, kB_edg hb]
  intro h
  simp only [Z1a, Z6l, Z61] at h
  injection h with h _
  revert h
  decide
def Whose (v w : Vtx) (e : Lnk) (s : List UInt8) (o : Int) : Prop :=
  (o = 0 ∧ idB v.id = true ∧ ∃ a, s = a ++ kB (Z6l v.id)) ∨ (o = 1 ∧ idB w.id = true ∧ ∃ a, s = a ++ kB (Z6l w.id)) ∨ (o = 2 ∧ idB e.id = true ∧ ∃ a, s = a ++ kB (Z61 e.id))
theorem whose_two {v w : Vtx} {e : Lnk} {s : List UInt8} {o i : Int} (h : Whose v w e s o) (h' : Whose v w e s i) (hoi : o ≤ i) : o = i ∨ (o = 0 ∧ i = 1 ∧ v.id = w.id) := by
  rcases h with ⟨rfl, h1, a, ha⟩ | ⟨rfl, h1, a, ha⟩ | ⟨rfl, h1, a, ha⟩ <;> rcases h' with ⟨rfl, h2, b, hb⟩ | ⟨rfl, h2, b, hb⟩ | ⟨rfl, h2, b, hb⟩
  · exact .inl rfl
  · exact .inr ⟨rfl, rfl, kBv_inj h1 h2 (List.append_inj' (ha.symm.trans hb) (by rw [(Zc1 h1).1, (Zc1 h2).1])).2⟩
  · exact absurd (List.append_inj' (ha.symm.trans hb) (by rw [(Zc1 h1).1, (Zc1 h2).2])).2 (kBve h1 h2)
  · omega
  · exact .inl rfl
  · exact absurd (List.append_inj' (ha.symm.trans hb) (by rw [(Zc1 h1).1, (Zc1 h2).2])).2 (kBve h1 h2)
  · omega
  · omega
  · exact .inl rfl
theorem idx_ends {elem : Val} {s : List UInt8} {l : List Prp} {y : Ent} (h : y ∈ idxK elem s l) : ∃ a, y.1 = a ++ kB elem := by
  rw [idx_eq] at h
  rcases List.mem_cons.1 h with rfl | h
  · exact ⟨_, rfl⟩
  · obtain ⟨x, _, rfl⟩ := List.mem_map.1 h
    exact ⟨_, rfl⟩
theorem vtx_ends {x : Vtx} {y : Ent} (h : y ∈ vtxK x) : idB x.id = true ∧ ∃ a, y.1 = a ++ kB (Z6l x.id) := by
  unfold vtxK at h
  split at h
  · rename_i hi
    refine ⟨hi, ?_⟩
    rcases List.mem_cons.1 h with rfl | h
    · refine ⟨[1], ?_⟩
      show Z41 (Z6l x.id) = _
      simp only [Z41, may_vtx hi, if_true]
      rfl
    · exact idx_ends h
  · cases h
theorem lnk_ends {x : Lnk} {y : Ent} (h : y ∈ Zh2 x) : idB x.id = true ∧ ∃ a, y.1 = a ++ kB (Z61 x.id) := by
  rcases lnkK_len (x := x) with h0 | ⟨_, h1, h2, h3⟩
  · rw [h0] at h
    cases h
  · refine ⟨h1, ?_⟩
    rw [lnkK_ok h1 h2 h3] at h
    rcases List.mem_cons.1 h with rfl | h
    · refine ⟨[2], ?_⟩
      show Z41 (Z61 x.id) = _
      simp only [Z41, may_edg h1, if_true]
      rfl
    · rcases List.mem_cons.1 h with rfl | h
      · exact ⟨_, rfl⟩
      · rcases List.mem_cons.1 h with rfl | h
        · exact ⟨_, rfl⟩
        · exact idx_ends h
theorem getMp_set {s u : List UInt8} {x : PV} : ∀ es : List (List UInt8 × PV), Z8p u (Z9h s x es) = if u = s then some x else Z8p u es
  | [] => by
    simp only [Z9h, Z8p]
  | (t, p) :: r => by
    simp only [Z9h]
    by_cases h : s = t
    · subst h
      rw [if_pos rfl]
      simp only [Z8p]
      split <;> rfl
    · rw [if_neg h]
      simp only [Z8p]
      rw [getMp_set r]
      by_cases h1 : u = t
      · subst h1
        rw [if_pos rfl, if_pos rfl, if_neg (fun e => h e.symm)]
      · rw [if_neg h1, if_neg h1]
section
variable {T : Tb} {Q : Z59} {k : List Fr} {ρ : EC} {st S' : St} {l : List POp} {kill : List Nat}
theorem O_makeMap {d : Option Nat} {n : Nat} (hS : st.new (.mp []) = S') (hn : st.next = n) (h : VO T Q l kill k (ρ.sets d (.mapv n)) S') : VO T Q (⟨d, none, .makeMap⟩ :: l) kill k ρ st := by
  subst hS hn
  exact Z9 rfl h
theorem O_lookS {d : Option Nat} {z p : PV} {m x : Opd} {t : Nat} {s : List UInt8} {es : List (List UInt8 × PV)} (hm : m.get ρ = some (.mapv t)) (hx : x.get ρ = some (.str s)) (hg : st.get t = some (.mp es)) (hr : Z8p s es = some p) (h : VO T Q l kill k (ρ.sets d (.tuple [p, .bool true])) st) : VO T Q (⟨d, none, .mapLook z true m x⟩ :: l) kill k ρ st :=
  Z0 (by simp only [Zg, get2, hm, hx, mapLook?, hg, hr, if_true]) h
theorem O_lookN {d : Option Nat} {z : PV} {m x : Opd} {t : Nat} {s : List UInt8} {es : List (List UInt8 × PV)} (hm : m.get ρ = some (.mapv t)) (hx : x.get ρ = some (.str s)) (hg : st.get t = some (.mp es)) (hr : Z8p s es = none) (h : VO T Q l kill k (ρ.sets d (.tuple [z, .bool false])) st) : VO T Q (⟨d, none, .mapLook z true m x⟩ :: l) kill k ρ st :=
  Z0 (by simp only [Zg, get2, hm, hx, mapLook?, hg, hr, if_true]) h
theorem O_mapPut {m x y : Opd} {t : Nat} {s : List UInt8} {kk : IntKind} {n : Int} {es : List (List UInt8 × PV)} (hm : m.get ρ = some (.mapv t)) (hx : x.get ρ = some (.str s)) (hy : y.get ρ = some (.int kk n)) (hg : st.get t = some (.mp es)) (hS : st.put t (.mp (Z9h s (.int kk n) es)) = S') (h : VO T Q l kill k (ρ.sets none (.tuple [])) S') : VO T Q (⟨none, none, .mapPut m x y⟩ :: l) kill k ρ st := by
  subst hS
  exact Z9 (by simp only [Z4a, hm, hx, hy, hg]; rfl) h
end
theorem toStr_ap {p : PV} {s : List UInt8} (hp : BV p s) : ∀ (look : Nat → Option Tok) (e : EC) {i : Nat}, e.get i = some p → Zg look e (.toStr (.t i)) = some (.str s) := fun look e i hi => by
  simp only [Zg, Z62, Opd.get, hi, hp.elems look, Option.bind_some, Z4i, Option.map_some]
def MInv (v w : Vtx) (e : Lnk) (i : Int) (es : List (List UInt8 × PV)) : Prop := ∀ s p, Z8p s es = some p → ∃ o : Int, p = .int .i64 o ∧ o ≤ i ∧ Whose v w e s o
theorem MInv.put {v w : Vtx} {e : Lnk} {i : Int} {es : List (List UInt8 × PV)} (h : MInv v w e i es) {s : List UInt8} (hs : Whose v w e s i) : MInv v w e i (Z9h s (.int .i64 i) es) := fun u p hp => by
  rw [getMp_set] at hp
  split at hp
  · rename_i hu
    subst hu
    injection hp with hp
    exact ⟨i, hp.symm, Int.le_refl _, hs⟩
  · exact h u p hp
def apEnv (R : PV) (i : Int) : List (Nat × PV) := [(3, .ptr 0 0), (4, .ptr 1 0), (7, .mapv 3), (23, R), (24, .int .i64 3), (25, .int .i64 i)]
set_option maxHeartbeats 4000000 in
theorem apart_loop {v w : Vtx} {e : Lnk} {sv sw : List UInt8} {pv pw : PV} {L : List Ent} {q : PV} (hq : LR EnC q L) {i : Int} (hL : ∀ y ∈ L, Whose v w e y.1 i) (R : PV) :
    ∀ (rest pre : List Ent) (st : St) (es : List (List UInt8 × PV)), L = pre ++ rest → st.get 0 = some (.var [.int .i64 v.id, .str sv, pv]) → st.get 1 = some (.var [.int .i64 w.id, .str sw, pw]) → st.get 3 = some (.mp es) → 3 < st.next → MInv v w e i es →
    V T (PE fun y ec st' => y = .exit 2 ∧ ec = Za4 (apEnv R i) ∧ ∃ es', st'.get 0 = some (.var [.int .i64 v.id, .str sv, pv]) ∧ st'.get 1 = some (.var [.int .i64 w.id, .str sw, pw]) ∧ st'.get 3 = some (.mp es') ∧ 3 < st'.next ∧ MInv v w e i es') [.code (.loop Z2b)] .normal (Za4 [(3, .ptr 0 0), (4, .ptr 1 0), (7, .mapv 3), (8, .int .i64 i), (23, R), (24, .int .i64 3), (25, .int .i64 i), (30, q), (31, .int .i64 L.length), (32, .int .i64 pre.length)]) st := by
  obtain ⟨_, _, hbig⟩ := hq.len
  intro rest
  induction rest with
  | nil =>
    intro pre st es hl h0 h1 h3 hn hm
    have hlt : decide ((pre.length : Int) < L.length) = false := decide_eq_false (by subst hl; simp)
    refine Zn ?_
    repeat' first | ((with_reducible show V _ _ _ _ _ _); first | refine Z3v hlt rfl rfl ?_ | refine V_out (apEnv R i) rfl ⟨rfl, rfl, rfl, rfl, rfl, rfl, trivial⟩ ⟨rfl, rfl, es, h0, h1, h3, hn, hm⟩ | refine Z3 rfl ?_) | refine Z0 rfl ?_ | refine Z4 ?_
  | cons x rest ih =>
    intro pre st es hl h0 h1 h3 hn hm
    have hlt : decide ((pre.length : Int) < L.length) = true := decide_eq_true (by subst hl; simp; omega)
    have hpl : pre.length < L.length := by subst hl; simp
    have hx : L[pre.length]? = some x := by subst hl; simp
    have hxw := hL x (by rw [hl]; simp)
    obtain ⟨cs, hat, pk, px, rfl, k1, k2⟩ := hq.at (fun _ _ h => h.len2) hx
    have hw : IntKind.i64.wrap ((pre.length : Int) + 1) = ((pre ++ [x]).length : Int) := by rw [Z06]; simp; omega
    have hcl : [pk, px].length = 2 := rfl
    have hone : (PV.agg [pk, px]).cells.all PV.one = true := by
      have o1 := Zbm k1
      have o2 := Zbm k2
      simp [PV.cells, o1, o2]
    have hst : storeAt (st.new (.var [.nilSl, .nilSl])) (.ptr st.next 0) (.agg [pk, px]) = some ((st.new (.var [.nilSl, .nilSl])).put st.next (.var [pk, px])) := Z03 St.get_new rfl
    have hvp := var_put (A := st) (z := [.nilSl, .nilSl]) (cs := [pk, px])
    generalize hS : (st.new (.var [.nilSl, .nilSl])).put st.next (.var [pk, px]) = S1 at hst hvp
    obtain ⟨hg, ho, hn1⟩ := hvp
    have g0 := (ho 0 (by omega)).trans h0
    have g1 := (ho 1 (by omega)).trans h1
    have g3 := (ho 3 (by omega)).trans h3
    have hts := toStr_ap k1
    obtain ⟨S2, hS2⟩ : ∃ S2, S1.put 3 (.mp (Z9h x.1 (.int .i64 i) es)) = S2 := ⟨_, rfl⟩
    have hi := ih (pre ++ [x]) S2 (Z9h x.1 (.int .i64 i) es) (by rw [hl]; simp) (by rw [← hS2]; exact (St.get_put_old (by decide)).trans g0) (by rw [← hS2]; exact (St.get_put_old (by decide)).trans g1) (by rw [← hS2]; exact St.get_put) (by rw [← hS2]; show 3 < S1.next; omega) (hm.put hxw)
    cases hr : Z8p x.1 es with
    | none =>
      refine Zn ?_
      repeat' first | ((with_reducible show V _ _ _ _ _ _); first | refine Z27 hlt rfl rfl ?_ | refine V_re rfl hi ⟨rfl, rfl, rfl, rfl, rfl, rfl, rfl, rfl, rfl, Z4b hw, trivial⟩ | refine Z3 rfl ?_ | refine Ze rfl rfl ?_) | ((with_reducible show VO _ _ _ _ _ _ _); first | refine Zh rfl rfl hat ?_ | refine Zfu rfl hcl ?_ | refine Zp rfl rfl hone hcl rfl hst ?_ | refine Zf rfl hg rfl ?_ | refine Z0 (hts _ _ rfl) ?_ | refine O_lookN rfl rfl g3 hr ?_ | refine O_mapPut rfl rfl rfl g3 hS2 ?_ | refine Z0 rfl ?_ | refine Z9 rfl ?_ | refine Z4 ?_ | refine O_gU' rfl ?_ | refine Z19 rfl rfl ?_)
    | some p =>
      obtain ⟨o, rfl, hoi, how⟩ := hm _ _ hr
      rcases whose_two how hxw hoi with rfl | ⟨rfl, rfl, hvw⟩
      · have d1 := ndec_is (p := o = o) rfl
        refine Zn ?_
        repeat' first | ((with_reducible show V _ _ _ _ _ _); first | refine Z27 hlt rfl rfl ?_ | refine V_re rfl hi ⟨rfl, rfl, rfl, rfl, rfl, rfl, rfl, rfl, rfl, Z4b hw, trivial⟩ | refine Z3 rfl ?_ | refine Ze rfl rfl ?_) | ((with_reducible show VO _ _ _ _ _ _ _); first | refine Zh rfl rfl hat ?_ | refine Zfu rfl hcl ?_ | refine Zp rfl rfl hone hcl rfl hst ?_ | refine Zf rfl hg rfl ?_ | refine Z0 (hts _ _ rfl) ?_ | refine O_lookS rfl rfl g3 hr ?_ | refine Z6 d1 rfl ?_ | refine O_mapPut rfl rfl rfl g3 hS2 ?_ | refine Z0 rfl ?_ | refine Z9 rfl ?_ | refine Z4 ?_ | refine Zq rfl ?_ | refine O_gU' rfl ?_ | refine Z19 rfl rfl ?_)
      · have d1 := ndec_not (p := (0 : Int) = 1) (by decide)
        have d2 := ndec_is (p := (1 : Int) = 1) rfl
        have d3 := ndec_is (p := v.id = w.id) hvw
        refine Zn ?_
        repeat' first | ((with_reducible show V _ _ _ _ _ _); first | refine Z27 hlt rfl rfl ?_ | refine V_re rfl hi ⟨rfl, rfl, rfl, rfl, rfl, rfl, rfl, rfl, rfl, Z4b hw, trivial⟩ | refine Z3 rfl ?_ | refine Ze rfl rfl ?_) | ((with_reducible show VO _ _ _ _ _ _ _); first | refine Zh rfl rfl hat ?_ | refine Zfu rfl hcl ?_ | refine Zp rfl rfl hone hcl rfl hst ?_ | refine Zf rfl hg rfl ?_ | refine Zf rfl g0 rfl ?_ | refine Zf rfl g1 rfl ?_ | refine Z0 (hts _ _ rfl) ?_ | refine O_lookS rfl rfl g3 hr ?_ | refine Z6 d1 rfl ?_ | refine Z6 d2 rfl ?_ | refine Z6 d3 rfl ?_ | refine O_mapPut rfl rfl rfl g3 hS2 ?_ | refine Z0 rfl ?_ | refine Z9 rfl ?_ | refine Z4 ?_ | refine Zq rfl ?_)
theorem Zca {v w : Vtx} {e : Lnk} {sv sw : List UInt8} {pv pw : PV} {L : List Ent} {q : PV} (hq : LR EnC q L) {i j : Int} (hij : IntKind.i64.wrap (i + 1) = j) (hlt : decide (i < 3) = true) (hL : ∀ y ∈ L, Whose v w e y.1 i) {R : PV} (hR : At 1 R i [q])
    (next : ∀ (st : St) (es : List (List UInt8 × PV)), st.get 0 = some (.var [.int .i64 v.id, .str sv, pv]) → st.get 1 = some (.var [.int .i64 w.id, .str sw, pw]) → st.get 3 = some (.mp es) → 3 < st.next → MInv v w e i es → V T (PE fun y ec st' => y = .exit 0) [.code (.loop Z0q)] .normal (Za4 (apEnv R j)) st)
    (st : St) (es : List (List UInt8 × PV)) (h0 : st.get 0 = some (.var [.int .i64 v.id, .str sv, pv])) (h1 : st.get 1 = some (.var [.int .i64 w.id, .str sw, pw])) (h3 : st.get 3 = some (.mp es)) (hn : 3 < st.next) (hm : MInv v w e i es) : V T (PE fun y ec st' => y = .exit 0) [.code (.loop Z0q)] .normal (Za4 (apEnv R i)) st := by
  obtain ⟨e1, e2, _⟩ := hq.len
  have hlp := apart_loop hq hL R L [] st es rfl h0 h1 h3 hn hm
  have hcl : [q].length = 1 := rfl
  refine Zn ?_
  repeat' first | ((with_reducible show V _ _ _ _ _ _); first | refine Z27 hlt rfl rfl ?_ | refine Zcc rfl hlp ⟨rfl, rfl, rfl, rfl, rfl, rfl, rfl, rfl, rfl, rfl, trivial⟩ ?_ | refine Z3 rfl ?_) | ((with_reducible show VO _ _ _ _ _ _ _); first | refine Zh rfl rfl hR ?_ | refine Z0r rfl e1 e2 ?_ | refine Z0 rfl ?_ | refine Z4 ?_)
  rintro x ec st' ⟨rfl, rfl, es', k0, k1, k3, kn, km⟩
  have hnx := next st' es' k0 k1 k3 kn km
  repeat' first | refine V_re rfl hnx ⟨rfl, rfl, rfl, rfl, rfl, Z4b hij, trivial⟩ | refine Z3 rfl ?_ | refine Z0 rfl ?_ | refine Z4 ?_
theorem build_3q {p q r : PV} {a b c : List Ent} (hp : LR EnC p a) (hq : LR EnC q b) (hr : LR EnC r c) : ∀ (look : Nat → Option Tok) (e : EC), e.get 18 = some p → e.get 20 = some q → e.get 22 = some r → Zg look e (.buildSl 1 [[.nilSl], [.nilSl], [.nilSl]] [(0, .t 18), (1, .t 20), (2, .t 22)]) = some (.sl [[p], [q], [r]] true) := fun look e hi hj hk => by
  have h1 := lr_one hp
  have h2 := lr_one hq
  have h3 := lr_one hr
  simp only [Zg, Z3b, Zbj, Opd.get, hi, hj, hk]
  rcases hp with ⟨rfl, _⟩ | ⟨_, _, rfl, _⟩ <;> rcases hq with ⟨rfl, _⟩ | ⟨_, _, rfl, _⟩ <;> rcases hr with ⟨rfl, _⟩ | ⟨_, _, rfl, _⟩ <;> rfl
set_option maxHeartbeats 8000000 in
theorem run_Apart {v w : Vtx} {cv cw : List PV} (hv : VtC v cv) (hw : VtC w cw) (bv : BdK v.label v.props) (bw : BdK w.label w.props) {e : Lnk} {ce : List PV} (he : LkC e ce) (be : BdK e.label e.props) : T.R (.call Z6q [.agg cv, .agg cw, .agg ce] (.bool true)) := by
  have hbg := run_kBegun
  obtain ⟨qv, a1, a2⟩ := Zgt hv bv.1 (Nat.le_trans bv.2.1 (by decide)) bv.2.2.1 bv.2.2.2
  obtain ⟨qw, b1, b2⟩ := Zgt hw bw.1 (Nat.le_trans bw.2.1 (by decide)) bw.2.2.1 bw.2.2.2
  obtain ⟨qe, c1, c2⟩ := edge_of he be
  have p1 := a2.pl (fun a _ cs h => h.pl)
  have p2 := b2.pl (fun a _ cs h => h.pl)
  have p3 := c2.pl (fun a _ cs h => h.pl)
  have hb3 := build_3q a2 b2 c2
  have w0 : ∀ y ∈ vtxK v, Whose v w e y.1 0 := fun y hy => .inl ⟨rfl, vtx_ends hy⟩
  have w1 : ∀ y ∈ vtxK w, Whose v w e y.1 1 := fun y hy => .inr (.inl ⟨rfl, vtx_ends hy⟩)
  have w2 : ∀ y ∈ Zh2 e, Whose v w e y.1 2 := fun y hy => .inr (.inr ⟨rfl, lnk_ends hy⟩)
  obtain ⟨_, _, pp, rfl, hp⟩ := hv
  obtain ⟨_, _, pq, rfl, hp'⟩ := hw
  obtain ⟨_, _, _, _, pr, rfl, hp''⟩ := he
  have pl1 := hp.pl (fun a _ cs h => h.pl)
  have pl2 := hp'.pl (fun a _ cs h => h.pl)
  have pl3 := hp''.pl (fun a _ cs h => h.pl)
  have A0 : At 1 (.sl [[qv], [qw], [qe]] true) 0 [qv] := ⟨by decide, rfl, _, _, rfl, rfl⟩
  have A1 : At 1 (.sl [[qv], [qw], [qe]] true) 1 [qw] := ⟨by decide, rfl, _, _, rfl, rfl⟩
  have A2 : At 1 (.sl [[qv], [qw], [qe]] true) 2 [qe] := ⟨by decide, rfl, _, _, rfl, rfl⟩
  have o3 : ∀ (st : St) (es : List (List UInt8 × PV)), st.get 0 = some (.var [.int .i64 v.id, .str v.label, pp]) → st.get 1 = some (.var [.int .i64 w.id, .str w.label, pq]) → st.get 3 = some (.mp es) → 3 < st.next → MInv v w e 2 es → V T (PE fun y ec st' => y = .exit 0) [.code (.loop Z0q)] .normal (Za4 (apEnv (.sl [[qv], [qw], [qe]] true) 3)) st := fun st es _ _ _ _ _ => by
    have hlt : decide ((3 : Int) < 3) = false := by decide
    refine Zn ?_
    repeat' first | ((with_reducible show V _ _ _ _ _ _); first | refine Z3v hlt rfl rfl ?_ | refine V_out [] rfl trivial rfl | refine Z3 rfl ?_) | refine Z0 rfl ?_ | refine Z4 ?_
  have mono : ∀ {i j : Int} {es : List (List UInt8 × PV)}, i ≤ j → MInv v w e i es → MInv v w e j es := fun hij h s p hs => by
    obtain ⟨o, h1, h2, h3⟩ := h s p hs
    exact ⟨o, h1, Int.le_trans h2 hij, h3⟩
  have o2 := Zca (i := 2) (j := 3) c2 (by decide) (by decide) w2 A2 o3
  have o1 := Zca (i := 1) (j := 2) b2 (by decide) (by decide) w1 A1 (fun st es h0 h1 h3 hn hm => o2 st es h0 h1 h3 hn (mono (by decide) hm))
  have o0 := Zca (i := 0) (j := 1) a2 (by decide) (by decide) w0 A0 (fun st es h0 h1 h3 hn hm => o1 st es h0 h1 h3 hn (mono (by decide) hm))
  generalize hS : ((emptySt.new (.var [.int .i64 v.id, .str v.label, pp])).new (.var [.int .i64 w.id, .str w.label, pq])).new (.var [.int .i64 e.id, .str e.label, .int .i64 e.out, .int .i64 e.into, pr]) = S
  have g0 : S.get 0 = some (.var [.int .i64 v.id, .str v.label, pp]) := by rw [← hS]; rfl
  have g1 : S.get 1 = some (.var [.int .i64 w.id, .str w.label, pq]) := by rw [← hS]; rfl
  have g2 : S.get 2 = some (.var [.int .i64 e.id, .str e.label, .int .i64 e.out, .int .i64 e.into, pr]) := by rw [← hS]; rfl
  have n0 : S.next = 3 := by rw [← hS]; rfl
  obtain ⟨M, hM⟩ : ∃ M, S.new (.mp []) = M := ⟨_, rfl⟩
  have m0 : M.get 0 = some (.var [.int .i64 v.id, .str v.label, pp]) := by rw [← hM]; exact (St.get_new_old (by omega)).trans g0
  have m1 : M.get 1 = some (.var [.int .i64 w.id, .str w.label, pq]) := by rw [← hM]; exact (St.get_new_old (by omega)).trans g1
  have m2 : M.get 2 = some (.var [.int .i64 e.id, .str e.label, .int .i64 e.out, .int .i64 e.into, pr]) := by rw [← hM]; exact (St.get_new_old (by omega)).trans g2
  have m3 : M.get 3 = some (.mp []) := by rw [← hM, ← n0]; exact St.get_new
  have nM : 3 < M.next := by rw [← hM]; show 3 < S.next + 1; omega
  have hlp := o0 M [] m0 m1 m3 nM (fun s p h => by cases h)
  refine Zo rfl rfl ?_
  repeat' first | ((with_reducible show V _ _ _ _ _ _); first | refine Zcc rfl hlp ⟨rfl, rfl, rfl, rfl, rfl, rfl, trivial⟩ ?_ | refine Z3 rfl ?_ | refine Ze rfl rfl ?_ | refine V_D rfl ?_) | ((with_reducible show VO _ _ _ _ _ _ _); first | refine O_alloc2 hS ?_ | refine Z8 rfl rfl hbg ?_ | refine O_makeMap hM n0 ?_ | refine Z0 rfl ?_ | refine Z9 rfl ?_ | refine Z4 ?_) | ((with_reducible show VD _ _ _ _ _ _ _); first | refine D_loadW rfl m0 (Nat.le_refl 3) rfl ?_ | refine D_loadW rfl m1 (Nat.le_refl 3) rfl ?_ | refine D_loadW rfl m2 (Nat.le_refl 5) rfl ?_ | refine D_cA rfl rfl a1 ?_ | refine D_cA rfl rfl b1 ?_ | refine D_cA rfl rfl c1 ?_ | refine Z2g (hb3 _ _ rfl rfl rfl) ?_ | refine Z2g rfl ?_ | refine Zbn ?_)
  rintro x ec st' rfl
  repeat' first | refine Z3 rfl ?_ | refine Zl rfl rfl ?_ | refine Z0 rfl ?_ | refine Z4 ?_
  rfl
end Go.Proofs.YtgdjnlopdpjnaaaDoor

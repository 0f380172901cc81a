/- keys.Elem. · ramblelaw11.begun. · ramblelaw11.stands: a graph of one vertex, and of one vertex and an edge. · ramblelaw11.stands: the walk of the graph's check. · ramblelaw11.stands. -/
import Derived.Test.YtgdjnlopdpjnaaaGreatDoorKeyMToKeyN
set_option linter.unusedVariables false
set_option linter.unusedSimpArgs false
namespace Go.Proofs.YtgdjnlopdpjnaaaGreatDoor
open Go Go.AM Go.RowKit
def rdSign (r : Rd) : Rd := match r.1 with
  | [] => ([], true)
  | n :: _ => (Z31 r (1 + n.toNat) (decide (n.toNat ≤ 40))).1
def elemA (b v : List UInt8) : Rd × Rd × Val × Int :=
  let r := (Z1z (rdName (Z1z (b, false) 6).1) 7)
  let x := numR (v, false) 1 281474976710656
  (r.1, x.1, r.2, x.2)
def elemB (c : UInt8) (b v : List UInt8) : Rd × Rd × Val × Int := match b with
  | [] => (([], true), (v, false), zeroV, 0)
  | d :: _ =>
    let r2 := rdName (Z31 (b, false) 1 (decide (d.toNat = 6) || decide (d.toNat = 7))).1
    let r3 := if c = 6 ∧ r2.2 = false then rdSign r2 else r2
    let r := Z1z r3 d.toNat
    (r.1, (v, false), r.2, 0)
def elemR (k v : List UInt8) : Option (Val × Int) := match k with
  | [] => none
  | c :: b => if c ∈ [3, 4, 5, 6] ∧ b ≠ [] then
      let t := if c = 3 ∨ c = 4 then elemA b v else elemB c b v
      if t.1 = ([], false) ∧ t.2.1 = ([], false) then some t.2.2 else none
    else none
def elemPV : Option (Val × Int) → PV
  | none => .tuple [.agg (cellsOf zeroV), .int .i64 0, .int .i64 110]
  | some (v, o) => .tuple [.agg (cellsOf v), .int .i64 o, .int .i64 0]
def pcAt : List Nat → PC → PC
  | 0 :: p, .seq a _ => pcAt p a
  | 1 :: p, .seq _ b => pcAt p b
  | 2 :: p, .block _ c => pcAt p c
  | 3 :: p, .cond _ a _ => pcAt p a
  | 4 :: p, .cond _ _ b => pcAt p b
  | 5 :: p, .loop c => pcAt p c
  | _, c => c
def elC (p : List Nat) : PC := pcAt p pf_keys_Elem.body
theorem done2 {S : St} {t : Nat} {r : Rd} (hr : RdR S t r) : ∃ S', Raw1 T S Z38 [.ptr t 0] (.bool (decide (r = ([], false)))) S' ∧ RdR S' t r ∧ Mut S S' t := by
  have h := done1 hr
  have e : (!r.2 && decide (r.1 = [])) = decide (r = ([], false)) := by
    obtain ⟨b, bad⟩ := r
    cases bad <;> simp
  rwa [e] at h
def z4 : List PV := [.int .i64 0, .int .i64 0, .str [], .nilSl]
theorem cellsOf_pl (v : Val) : ∀ c ∈ cellsOf v, Pl c := by
  intro c hc
  simp only [cellsOf, List.mem_cons, List.not_mem_nil, or_false] at hc
  rcases hc with rfl | rfl | rfl | rfl
  · exact .int _ _
  · exact .int _ _
  · exact .str _
  · exact .nilSl
theorem elemPV_pl (o : Option (Val × Int)) : Pl (elemPV o) := by
  cases o with
  | none => exact .tuple _ (Z0m (.agg _ (cellsOf_pl _)) (Z0m (.int _ _) (Z0m (.int _ _) Z1d)))
  | some p => exact .tuple _ (Z0m (.agg _ (cellsOf_pl _)) (Z0m (.int _ _) (Z0m (.int _ _) Z1d)))
theorem Mut.get {S S' : St} {t u : Nat} {k : Tok} (m : Mut S S' t) (hu : u < S.next) (hn : u ≠ t) (h : S.get u = some k) : S'.get u = some k := (m.2.2 u hu hn).trans h
set_option maxHeartbeats 2000000 in
theorem el_tail {res : Rd × Rd × Val × Int} {S : St} {t x a : Nat} (h1 : RdR S t res.1) (h2 : RdR S x res.2.1) (htx : t ≠ x) (ht : 1 < t ∧ 1 < x ∧ 1 < a ∧ a < S.next) (hta : a ≠ t ∧ a ≠ x) (ga : S.get a = some (.var (cellsOf res.2.2.1))) (g1 : S.get 1 = some (.var z4)) :
    ∀ (fr : List Fr) (y : EX), adv 200 fr y = adv 200 [.code (elC [1, 1, 1, 1, 1, 1])] .normal → V T (Go.AM.Ends pf_keys_Elem (· = elemPV (if res.1 = ([], false) ∧ res.2.1 = ([], false) then some res.2.2 else none))) fr y (ecOf [(2, .ptr 1 0), (5, .ptr t 0), (6, .ptr x 0), (7, .ptr a 0), (8, .int .i64 res.2.2.2)]) S := by
  intro fr y hadv
  obtain ⟨r, xr, v, o⟩ := res
  simp only at h1 h2 ga ⊢
  obtain ⟨hta1, hta2⟩ := hta
  obtain ⟨ht1, ht2, ht3, ht4⟩ := ht
  obtain ⟨B, b1, b2, b3⟩ := done2 h1
  have gB1 : B.get 1 = some (.var z4) := b3.get (by have := h1.1; omega) (by omega) g1
  have gBa : B.get a = some (.var (cellsOf v)) := b3.get ht4 hta1 ga
  have bx := h2.apart b3 (Ne.symm htx)
  have stz : storeAt B (.ptr 1 0) (.agg (cellsOf zeroV)) = some (B.put 1 (.var (cellsOf zeroV))) := Z0i gB1 rfl
  have gz : (B.put 1 (.var (cellsOf zeroV))).get 1 = some (.var (cellsOf zeroV)) := St.get_put
  refine Z3l (hadv.trans rfl) ?_
  by_cases hr : r = ([], false)
  · have d1 : decide (r = ([], false)) = true := by simp [hr]
    rw [d1] at b1
    obtain ⟨C, c1, c2, c3⟩ := done2 bx
    have gC1 : C.get 1 = some (.var z4) := c3.get (by have := b2.1; omega) (by omega) gB1
    have gCa : C.get a = some (.var (cellsOf v)) := c3.get (by have := b3.2.1; omega) hta2 gBa
    by_cases hx : xr = ([], false)
    · have d2 : decide (xr = ([], false)) = true := by simp [hx]
      rw [d2] at c1
      rw [if_pos ⟨hr, hx⟩]
      have stv : storeAt C (.ptr 1 0) (.agg (cellsOf v)) = some (C.put 1 (.var (cellsOf v))) := Z0i gC1 rfl
      have gv : (C.put 1 (.var (cellsOf v))).get 1 = some (.var (cellsOf v)) := St.get_put
      repeat' first | ((with_reducible show V _ _ _ _ _ _); first | refine Z2c rfl (resG_cG rfl gv rfl rfl rfl) (elemPV_pl (some (v, o))).view ?_ | refine V_O rfl ?_ | refine Z1e rfl rfl ?_) | ((with_reducible show VO _ _ _ _ _ _ _); first | refine Z25 b1 rfl rfl ?_ | refine Z25 c1 rfl rfl ?_ | refine Z1p rfl gCa rfl ?_ | refine Z0b rfl rfl rfl rfl rfl stv ?_ | refine Z02 rfl ?_ | refine Z03 ?_ | refine Z10 rfl ?_)
      rfl
    · have d2 : decide (xr = ([], false)) = false := by simp [hx]
      rw [d2] at c1
      rw [if_neg (fun h => hx h.2)]
      have stz' : storeAt C (.ptr 1 0) (.agg (cellsOf zeroV)) = some (C.put 1 (.var (cellsOf zeroV))) := Z0i gC1 rfl
      have gz' : (C.put 1 (.var (cellsOf zeroV))).get 1 = some (.var (cellsOf zeroV)) := St.get_put
      repeat' first | ((with_reducible show V _ _ _ _ _ _); first | refine Z2c rfl (resG_cG rfl gz' rfl rfl rfl) (elemPV_pl none).view ?_ | refine V_O rfl ?_ | refine Z16 rfl rfl ?_) | ((with_reducible show VO _ _ _ _ _ _ _); first | refine Z25 b1 rfl rfl ?_ | refine Z25 c1 rfl rfl ?_ | refine Z0b rfl rfl rfl rfl rfl stz' ?_ | refine Z02 rfl ?_ | refine Z03 ?_ | refine Z10 rfl ?_)
      rfl
  · have d1 : decide (r = ([], false)) = false := by simp [hr]
    rw [d1] at b1
    rw [if_neg (fun h => hr h.1)]
    repeat' first | ((with_reducible show V _ _ _ _ _ _); first | refine Z2c rfl (resG_cG rfl gz rfl rfl rfl) (elemPV_pl none).view ?_ | refine V_O rfl ?_ | refine Z16 rfl rfl ?_) | ((with_reducible show VO _ _ _ _ _ _ _); first | refine Z25 b1 rfl rfl ?_ | refine Z0b rfl rfl rfl rfl rfl stz ?_ | refine Z02 rfl ?_ | refine Z03 ?_ | refine Z1j rfl rfl ?_)
    rfl
theorem el_key {r3 xr : Rd} {kind : Int} {S : St} {t x a : Nat} (h1 : RdR S t r3) (h2 : RdR S x xr) (htx : t ≠ x) (ht : 1 < t ∧ 1 < x ∧ 1 < a ∧ a < S.next) (hta : a ≠ t ∧ a ≠ x) (ga : S.get a = some (.var z4)) (g1 : S.get 1 = some (.var z4)) :
    ∀ (fr : List Fr) (y : EX), adv 200 fr y = adv 200 [.code (elC [1, 1, 1, 1, 1, 0, 1, 2, 1, 4, 1, 1, 1, 1]), .block 0, .code (elC [1, 1, 1, 1, 1, 1])] .normal → V T (Go.AM.Ends pf_keys_Elem (· = elemPV (if (Z1z r3 kind).1 = ([], false) ∧ xr = ([], false) then some ((Z1z r3 kind).2, 0) else none))) fr y (ecOf [(2, .ptr 1 0), (5, .ptr t 0), (6, .ptr x 0), (7, .ptr a 0), (8, .int .i64 0), (9, .int .i64 kind)]) S := by
  intro fr y hadv
  obtain ⟨hta1, hta2⟩ := hta
  obtain ⟨ht1, ht2, ht3, ht4⟩ := ht
  obtain ⟨B, b1, b2, b3⟩ := key1 h1 (kind := kind)
  have gB1 : B.get 1 = some (.var z4) := b3.get (by have := h1.1; omega) (by omega) g1
  have gBa : B.get a = some (.var z4) := b3.get ht4 hta1 ga
  have bx := h2.apart b3 (Ne.symm htx)
  have stv : storeAt B (.ptr a 0) (.agg (cellsOf (Z1z r3 kind).2)) = some (B.put a (.var (cellsOf (Z1z r3 kind).2))) := Z0i gBa rfl
  have gv : (B.put a (.var (cellsOf (Z1z r3 kind).2))).get a = some (.var (cellsOf (Z1z r3 kind).2)) := St.get_put
  have go : ∀ u, u ≠ a → (B.put a (.var (cellsOf (Z1z r3 kind).2))).get u = B.get u := fun u hu => St.get_put_old (Ne.symm hu)
  have hl := el_tail (res := ((Z1z r3 kind).1, xr, (Z1z r3 kind).2, 0)) (S := B.put a (.var (cellsOf (Z1z r3 kind).2))) (t := t) (x := x) (a := a) (b2.keep (Nat.le_refl _) (go t (Ne.symm hta1))) (bx.keep (Nat.le_refl _) (go x (Ne.symm hta2))) htx ⟨ht1, ht2, ht3, by show a < B.next; have := b3.2.1; omega⟩ ⟨hta1, hta2⟩ gv ((go 1 (by omega)).trans gB1)
  refine Z3l (hadv.trans rfl) ?_
  repeat' first | refine V_stage (hl _ _ rfl) ⟨rfl, rfl, rfl, rfl, rfl, trivial⟩ | refine V_O rfl ?_ | ((with_reducible show VO _ _ _ _ _ _ _); first | refine Z25 b1 rfl rfl ?_ | refine Z0b rfl rfl rfl rfl rfl stv ?_ | refine Z02 rfl ?_ | refine Z03 ?_)
set_option maxHeartbeats 2000000 in
theorem el_name {c : UInt8} {b : List UInt8} {pk pv : PV} (hk : BV pk (c :: b)) (hc : c = 5 ∨ c = 6) {r1 xr : Rd} {kind : Int} {S : St} {t x a : Nat} (h1 : RdR S t r1) (h2 : RdR S x xr) (htx : t ≠ x) (ht : 1 < t ∧ 1 < x ∧ 1 < a ∧ a < S.next) (hta : a ≠ t ∧ a ≠ x) (ga : S.get a = some (.var z4)) (g1 : S.get 1 = some (.var z4)) (g0 : S.get 0 = some (.var [pk, pv])) {r3 : Rd} (hr3 : r3 = if c = 6 ∧ (rdName r1).2 = false then rdSign (rdName r1) else rdName r1) :
    ∀ (fr : List Fr) (y : EX), adv 200 fr y = adv 200 [.code (elC [1, 1, 1, 1, 1, 0, 1, 2, 1, 4, 1, 1]), .block 0, .code (elC [1, 1, 1, 1, 1, 1])] .normal → V T (Go.AM.Ends pf_keys_Elem (· = elemPV (if (Z1z r3 kind).1 = ([], false) ∧ xr = ([], false) then some ((Z1z r3 kind).2, 0) else none))) fr y (ecOf [(1, .ptr 0 0), (2, .ptr 1 0), (5, .ptr t 0), (6, .ptr x 0), (7, .ptr a 0), (8, .int .i64 0), (9, .int .i64 kind)]) S := by
  intro fr y hadv
  obtain ⟨hta1, hta2⟩ := hta
  obtain ⟨ht1, ht2, ht3, ht4⟩ := ht
  obtain ⟨B, b1, b2, b3⟩ := name1 h1
  have gB0 : B.get 0 = some (.var [pk, pv]) := b3.get (by have := h1.1; omega) (by omega) g0
  have gB1 : B.get 1 = some (.var z4) := b3.get (by have := h1.1; omega) (by omega) g1
  have gBa : B.get a = some (.var z4) := b3.get ht4 hta1 ga
  have bx := h2.apart b3 (Ne.symm htx)
  have haB : a < B.next := by have := b3.2.1; omega
  have hat := hk.at (n := 0) (b := c) (by omega) rfl
  refine Z3l (hadv.trans rfl) ?_
  generalize hnr : rdName r1 = nr at *
  obtain ⟨rb, bad⟩ := nr
  rcases hc with rfl | rfl
  · have e : r3 = (rb, bad) := by rw [hr3]; simp
    subst e
    have hl := el_key (kind := kind) b2 bx htx ⟨ht1, ht2, ht3, haB⟩ ⟨hta1, hta2⟩ gBa gB1
    repeat' first | ((with_reducible show V _ _ _ _ _ _); first | refine V_stage (hl _ _ rfl) ⟨rfl, rfl, rfl, rfl, rfl, rfl, trivial⟩ | refine V_O rfl ?_ | refine Z1e rfl rfl ?_) | ((with_reducible show VO _ _ _ _ _ _ _); first | refine Z25 b1 rfl rfl ?_ | refine Z0a rfl gB0 rfl ?_ | refine Z2q rfl rfl hat ?_ | refine Z02 rfl ?_ | refine Z03 ?_ | refine Z1j rfl rfl ?_)
  · obtain ⟨_, hbl, p, hg, hp⟩ := id b2
    simp only at hg hp hbl
    cases bad with
    | true =>
      have e : r3 = (rb, true) := by rw [hr3]; simp
      subst e
      have hl := el_key (kind := kind) b2 bx htx ⟨ht1, ht2, ht3, haB⟩ ⟨hta1, hta2⟩ gBa gB1
      repeat' first | ((with_reducible show V _ _ _ _ _ _); first | refine V_stage (hl _ _ rfl) ⟨rfl, rfl, rfl, rfl, rfl, rfl, trivial⟩ | refine V_O rfl ?_ | refine Z1e rfl rfl ?_) | ((with_reducible show VO _ _ _ _ _ _ _); first | refine Z25 b1 rfl rfl ?_ | refine Z0a rfl gB0 rfl ?_ | refine Z0a rfl hg rfl ?_ | refine Z2q rfl rfl hat ?_ | refine Z02 rfl ?_ | refine Z03 ?_ | refine Z10 rfl ?_)
    | false =>
      cases rb with
      | nil =>
        have e : r3 = ([], true) := by rw [hr3]; simp [rdSign]
        subst e
        have hc0 := Z13 (p := (([] : List UInt8).length : Int) = 0) rfl
        have hst := storeAt_rd1 (c := .bool true) hg rfl
        have go : ∀ u, u ≠ t → (B.put t (.var [p, .bool true])).get u = B.get u := fun u hu => St.get_put_old (Ne.symm hu)
        have hl := el_key (kind := kind) (S := B.put t (.var [p, .bool true])) (r3 := ([], true)) ⟨b2.1, by simp, p, St.get_put, hp⟩ (bx.keep (Nat.le_refl _) (go x (Ne.symm htx))) htx ⟨ht1, ht2, ht3, haB⟩ ⟨hta1, hta2⟩ ((go a hta1).trans gBa) ((go 1 (by omega)).trans gB1)
        repeat' first | ((with_reducible show V _ _ _ _ _ _); first | refine V_stage (hl _ _ rfl) ⟨rfl, rfl, rfl, rfl, rfl, rfl, trivial⟩ | refine V_O rfl ?_ | refine Z16 rfl rfl ?_) | ((with_reducible show VO _ _ _ _ _ _ _); first | refine Z25 b1 rfl rfl ?_ | refine Z0a rfl gB0 rfl ?_ | refine Z0a rfl hg rfl ?_ | refine Z0z rfl hp ?_ | refine Z0q hc0 rfl ?_ | refine Z2q rfl rfl hat ?_ | refine Z0b rfl rfl rfl rfl rfl hst ?_ | refine Z02 rfl ?_ | refine Z03 ?_ | refine Z10 rfl ?_)
      | cons n q =>
        have hn := n.toNat_lt
        have hc0 := Z0n (p := ((n :: q).length : Int) = 0) (by simp; omega)
        have hat2 := hp.at (n := 0) (b := n) (by omega) rfl
        have ew : PV.int .i64 (IntKind.i64.wrap (n.toNat : Int)) = PV.int .i64 (n.toNat : Int) := Z3x (by rw [Z0l]; omega)
        have ea : PV.int .i64 (IntKind.i64.wrap (1 + (n.toNat : Int))) = PV.int .i64 ((1 + n.toNat : Nat) : Int) := Z3x (by rw [Z0l]; omega)
        have el : PV.bool (decide ((n.toNat : Int) ≤ 40)) = PV.bool (decide (n.toNat ≤ 40)) := by
          congr 1
          simp only [decide_eq_decide]
          omega
        obtain ⟨D, d1, d2, d3⟩ := skip1 b2 (n := 1 + n.toNat) (by omega) (decide (n.toNat ≤ 40))
        have e : r3 = (Z31 (n :: q, false) (1 + n.toNat) (decide (n.toNat ≤ 40))).1 := by rw [hr3]; simp [rdSign]
        rw [← e] at d2
        have hl := el_key (kind := kind) d2 (bx.apart d3 (Ne.symm htx)) htx ⟨ht1, ht2, ht3, by have := d3.2.1; omega⟩ ⟨hta1, hta2⟩ (d3.get haB hta1 gBa) (d3.get (by have := b2.1; omega) (by omega) gB1)
        repeat' first | ((with_reducible show V _ _ _ _ _ _); first | refine V_stage (hl _ _ rfl) ⟨rfl, rfl, rfl, rfl, rfl, rfl, trivial⟩ | refine V_O rfl ?_ | refine Z16 rfl rfl ?_ | refine Z1e rfl rfl ?_) | ((with_reducible show VO _ _ _ _ _ _ _); first | refine Z25 b1 rfl rfl ?_ | refine Z25 d1 rfl rfl ?_ | refine Z0a rfl gB0 rfl ?_ | refine Z0a rfl hg rfl ?_ | refine Z0z rfl hp ?_ | refine Z0q hc0 rfl ?_ | refine Z2q rfl rfl hat ?_ | refine Z2q rfl rfl hat2 ?_ | refine Z0q ew rfl ?_ | refine Z0q ea rfl ?_ | refine Z0q el rfl ?_ | refine Z02 rfl ?_ | refine Z03 ?_ | refine Z10 rfl ?_)
set_option maxHeartbeats 4000000 in
theorem run_Elem {pk pv : PV} {k v : List UInt8} (hk : BV pk k) (hv : BV pv v) (hkl : k.length ≤ 1073741824) (hvl : v.length ≤ 1073741824) : T.R (.call n_keys_Elem [.agg [pk, pv]] (elemPV (elemR k v))) := by
  have hpk := hk.pl
  have hpv := hv.pl
  have ho1 := bv_one hk
  have ho2 := bv_one hv
  obtain ⟨S0, hS0⟩ : ∃ S0 : St, S0 = (emptySt.new (.var [pk, pv])).new (.var z4) := ⟨_, rfl⟩
  have s0 : S0.get 0 = some (.var [pk, pv]) := by rw [hS0]; rfl
  have s1 : S0.get 1 = some (.var z4) := by rw [hS0]; rfl
  have sn : S0.next = 2 := by rw [hS0]; rfl
  obtain ⟨t, B, b1, b2, b3, b4, b5⟩ := open1 (S := S0) hk hv hkl (kinds := [3, 4, 5, 6]) (by simp)
  have hbd := build_rd hv
  have hcp : ∀ c ∈ [pv, PV.bool false], Pl c := Z0m hpv (Z0m (.bool _) Z1d)
  have B0 : B.get 0 = some (.var [pk, pv]) := (b5 0 (by omega)).trans s0
  have B1 : B.get 1 = some (.var z4) := (b5 1 (by omega)).trans s1
  have hD : ∀ (e : EC), e.get 17 = some (.ptr B.next 0) → e.get 6 = some (.ptr B.next 0) → ∀ u ∈ [17, 6], e.get u = some (.ptr B.next 0) := fun e h1 h2 u hu => by
    simp only [List.mem_cons, List.not_mem_nil, or_false] at hu
    rcases hu with rfl | rfl <;> assumption
  obtain ⟨S1, hS1⟩ : ∃ S1 : St, S1 = B.new (.var [pv, .bool false]) := ⟨_, rfl⟩
  have n1 : S1.next = B.next + 1 := by rw [hS1]; rfl
  have o1 : ∀ u, u < B.next → S1.get u = B.get u := fun u hu => by rw [hS1]; exact St.get_new_old hu
  have hx1 : RdR S1 B.next (v, false) := ⟨by omega, hvl, pv, by rw [hS1]; exact St.get_new, hv⟩
  have htB := b3.1
  have ht1 : RdR S1 t (openR k [3, 4, 5, 6]) := b3.keep (by omega) (o1 t htB)
  have g0 : S1.get 0 = some (.var [pk, pv]) := (o1 0 (by omega)).trans B0
  have g1 : S1.get 1 = some (.var z4) := (o1 1 (by omega)).trans B1
  obtain ⟨_, hrl, p, hg, hp⟩ := id ht1
  have stz : storeAt S1 (.ptr 1 0) (.agg (cellsOf zeroV)) = some (S1.put 1 (.var (cellsOf zeroV))) := Z0i g1 rfl
  have gz : (S1.put 1 (.var (cellsOf zeroV))).get 1 = some (.var (cellsOf zeroV)) := St.get_put
  have hbad : (openR k [3, 4, 5, 6]).2 = true → T.R (.call n_keys_Elem [.agg [pk, pv]] (elemPV none)) := fun hb => by
    rw [hb] at hg
    refine Z0c rfl rfl ?_
    repeat' first | ((with_reducible show V _ _ _ _ _ _); first | refine V_X ⟨2, 17, B.next, [17, 6], [pv, .bool false], S0, B⟩ hS0 b4 (Nat.le_refl _) rfl ?_ | refine Z2c rfl (resG_cG rfl gz rfl rfl rfl) (elemPV_pl none).view ?_ | refine V_O rfl ?_ | refine Z16 rfl rfl ?_) | ((with_reducible show VO _ _ _ _ _ _ _); first | refine Z0a rfl hg rfl ?_ | refine Z0b rfl rfl rfl rfl rfl stz ?_ | refine Z02 rfl ?_ | refine Z05 rfl ?_ | refine Z03 ?_ | refine Z1j rfl rfl ?_) | ((with_reducible show VX _ _ _ _ _ _ _ _ _ _); first | refine X_nil1 hS1 rfl rfl (hD _ rfl rfl) ?_ | refine X_raw1 rfl rfl rfl rfl rfl b1 rfl ?_ | refine X_loadP rfl rfl rfl s0 B0 rfl ?_ | refine X_loadV rfl rfl rfl s0 B0 rfl ?_ | refine Z4b rfl rfl (fun _ => hbd _ _ _ rfl) ?_ | refine X_box rfl rfl rfl rfl rfl rfl hcp ?_ | refine X_move rfl rfl rfl rfl rfl ?_ | refine Z4b rfl rfl (fun _ => rfl) ?_)
    rfl
  cases k with
  | nil => exact hbad rfl
  | cons c b =>
    by_cases hc : c ∈ [3, 4, 5, 6]
    · have hop : openR (c :: b) [3, 4, 5, 6] = (b, false) := by simp only [openR]; rw [if_pos hc]
      rw [hop] at hg hp ht1 hrl
      cases b with
      | nil =>
        have he : elemR [c] v = none := by simp [elemR]
        have hc0 := Z13 (p := (([] : List UInt8).length : Int) = 0) rfl
        rw [he]
        refine Z0c rfl rfl ?_
        repeat' first | ((with_reducible show V _ _ _ _ _ _); first | refine V_X ⟨2, 17, B.next, [17, 6], [pv, .bool false], S0, B⟩ hS0 b4 (Nat.le_refl _) rfl ?_ | refine Z2c rfl (resG_cG rfl gz rfl rfl rfl) (elemPV_pl none).view ?_ | refine V_O rfl ?_ | refine Z16 rfl rfl ?_) | ((with_reducible show VO _ _ _ _ _ _ _); first | refine Z0a rfl hg rfl ?_ | refine Z0z rfl hp ?_ | refine Z0q hc0 rfl ?_ | refine Z0b rfl rfl rfl rfl rfl stz ?_ | refine Z02 rfl ?_ | refine Z05 rfl ?_ | refine Z03 ?_ | refine Z10 rfl ?_) | ((with_reducible show VX _ _ _ _ _ _ _ _ _ _); first | refine X_nil1 hS1 rfl rfl (hD _ rfl rfl) ?_ | refine X_raw1 rfl rfl rfl rfl rfl b1 rfl ?_ | refine X_loadP rfl rfl rfl s0 B0 rfl ?_ | refine X_loadV rfl rfl rfl s0 B0 rfl ?_ | refine Z4b rfl rfl (fun _ => hbd _ _ _ rfl) ?_ | refine X_box rfl rfl rfl rfl rfl rfl hcp ?_ | refine X_move rfl rfl rfl rfl rfl ?_ | refine Z4b rfl rfl (fun _ => rfl) ?_)
        rfl
      | cons d b =>
        have hc0 := Z0n (p := ((d :: b).length : Int) = 0) (by simp; omega)
        have hat := hk.at (n := 0) (b := c) (by omega) rfl
        have hat2 := hp.at (n := 0) (b := d) (by omega) rfl
        obtain ⟨S2, hS2⟩ : ∃ S2 : St, S2 = S1.new (.var z4) := ⟨_, rfl⟩
        have o2 : ∀ u, u < S1.next → S2.get u = S1.get u := fun u hu => by rw [hS2]; exact St.get_new_old hu
        have n2 : S2.next = S1.next + 1 := by rw [hS2]; rfl
        have w2 : S2.get S1.next = some (.var z4) := by rw [hS2]; exact St.get_new
        have ht2 : RdR S2 t (d :: b, false) := ht1.keep (by omega) (o2 t (by omega))
        have hx2 : RdR S2 B.next (v, false) := hx1.keep (by omega) (o2 _ (by omega))
        have w1 : S2.get 1 = some (.var z4) := (o2 1 (by omega)).trans g1
        have w0 : S2.get 0 = some (.var [pk, pv]) := (o2 0 (by omega)).trans g0
        have htx : t ≠ B.next := by omega
        have he : elemR (c :: d :: b) v = (if (if c = 3 ∨ c = 4 then elemA (d :: b) v else elemB c (d :: b) v).1 = ([], false) ∧ (if c = 3 ∨ c = 4 then elemA (d :: b) v else elemB c (d :: b) v).2.1 = ([], false) then some (if c = 3 ∨ c = 4 then elemA (d :: b) v else elemB c (d :: b) v).2.2 else none) := by
          simp only [elemR]
          rw [if_pos ⟨hc, by simp⟩]
        rw [he]
        by_cases h34 : c = 3 ∨ c = 4
        · rw [if_pos h34]
          obtain ⟨S3, q1, q2, q3⟩ := key1 ht2 (kind := 6)
          obtain ⟨S4, q4, q5, q6⟩ := name1 q2
          obtain ⟨S5, q7, q8, q9⟩ := key1 q5 (kind := 7)
          have m5 : Mut S2 S5 t := (q3.trans q6).trans q9
          have w5 : S5.get S1.next = some (.var z4) := m5.get (by omega) (by omega) w2
          have stv := Z0i (ds := cellsOf (Z1z (rdName (Z1z (d :: b, false) 6).1) 7).2) w5 rfl
          generalize hS6 : S5.put S1.next (.var (cellsOf (Z1z (rdName (Z1z (d :: b, false) 6).1) 7).2)) = S6 at stv
          have o6 : ∀ u, u ≠ S1.next → S6.get u = S5.get u := fun u hu => by rw [← hS6]; exact St.get_put_old (Ne.symm hu)
          have w6 : S6.get S1.next = some (.var (cellsOf (Z1z (rdName (Z1z (d :: b, false) 6).1) 7).2)) := by rw [← hS6]; exact St.get_put
          have n6 : S6.next = S5.next := by rw [← hS6]; rfl
          have l5 := m5.2.1
          have hx6 : RdR S6 B.next (v, false) := (hx2.apart m5 (Ne.symm htx)).keep (by omega) (o6 _ (by omega))
          obtain ⟨S7, q10, q11, q12⟩ := num1 hx6 (lo := 1) (hi := 281474976710656) (by omega) (by omega)
          have ht7 : RdR S7 t (Z1z (rdName (Z1z (d :: b, false) 6).1) 7).1 := (q8.keep (by omega) (o6 t (by omega))).apart q12 htx
          have hl := el_tail (res := elemA (d :: b) v) (S := S7) (t := t) (x := B.next) (a := S1.next) ht7 q11 htx ⟨by omega, by omega, by omega, by have := q12.2.1; omega⟩ ⟨by omega, by omega⟩ (q12.get (by omega) (by omega) w6) (q12.get (by omega) (by omega) ((o6 1 (by omega)).trans (m5.get (by omega) (by omega) w1)))
          refine Z0c rfl rfl ?_
          rcases h34 with rfl | rfl
          · repeat' first | ((with_reducible show V _ _ _ _ _ _); first | refine V_stage (hl _ _ rfl) ⟨rfl, rfl, rfl, rfl, rfl, trivial⟩ | refine V_X ⟨2, 17, B.next, [17, 6], [pv, .bool false], S0, B⟩ hS0 b4 (Nat.le_refl _) rfl ?_ | refine V_O rfl ?_ | refine Z16 rfl rfl ?_ | refine Z1e rfl rfl ?_) | ((with_reducible show VO _ _ _ _ _ _ _); first | refine Z0a rfl hg rfl ?_ | refine Z0z rfl hp ?_ | refine Z0q hc0 rfl ?_ | refine O_alloc1 hS2 ?_ | refine Z0a rfl w0 rfl ?_ | refine Z2q rfl rfl hat ?_ | refine Z25 q1 rfl rfl ?_ | refine Z25 q4 rfl rfl ?_ | refine Z25 q7 rfl rfl ?_ | refine Z25 q10 rfl rfl ?_ | refine Z0b rfl rfl rfl rfl rfl stv ?_ | refine Z02 rfl ?_ | refine Z05 rfl ?_ | refine Z03 ?_ | refine Z10 rfl ?_) | ((with_reducible show VX _ _ _ _ _ _ _ _ _ _); first | refine X_nil1 hS1 rfl rfl (hD _ rfl rfl) ?_ | refine X_raw1 rfl rfl rfl rfl rfl b1 rfl ?_ | refine X_loadP rfl rfl rfl s0 B0 rfl ?_ | refine X_loadV rfl rfl rfl s0 B0 rfl ?_ | refine Z4b rfl rfl (fun _ => hbd _ _ _ rfl) ?_ | refine X_box rfl rfl rfl rfl rfl rfl hcp ?_ | refine X_move rfl rfl rfl rfl rfl ?_ | refine Z4b rfl rfl (fun _ => rfl) ?_)
          · repeat' first | ((with_reducible show V _ _ _ _ _ _); first | refine V_stage (hl _ _ rfl) ⟨rfl, rfl, rfl, rfl, rfl, trivial⟩ | refine V_X ⟨2, 17, B.next, [17, 6], [pv, .bool false], S0, B⟩ hS0 b4 (Nat.le_refl _) rfl ?_ | refine V_O rfl ?_ | refine Z16 rfl rfl ?_ | refine Z1e rfl rfl ?_) | ((with_reducible show VO _ _ _ _ _ _ _); first | refine Z0a rfl hg rfl ?_ | refine Z0z rfl hp ?_ | refine Z0q hc0 rfl ?_ | refine O_alloc1 hS2 ?_ | refine Z0a rfl w0 rfl ?_ | refine Z2q rfl rfl hat ?_ | refine Z25 q1 rfl rfl ?_ | refine Z25 q4 rfl rfl ?_ | refine Z25 q7 rfl rfl ?_ | refine Z25 q10 rfl rfl ?_ | refine Z0b rfl rfl rfl rfl rfl stv ?_ | refine Z02 rfl ?_ | refine Z05 rfl ?_ | refine Z03 ?_ | refine Z10 rfl ?_) | ((with_reducible show VX _ _ _ _ _ _ _ _ _ _); first | refine X_nil1 hS1 rfl rfl (hD _ rfl rfl) ?_ | refine X_raw1 rfl rfl rfl rfl rfl b1 rfl ?_ | refine X_loadP rfl rfl rfl s0 B0 rfl ?_ | refine X_loadV rfl rfl rfl s0 B0 rfl ?_ | refine Z4b rfl rfl (fun _ => hbd _ _ _ rfl) ?_ | refine X_box rfl rfl rfl rfl rfl rfl hcp ?_ | refine X_move rfl rfl rfl rfl rfl ?_ | refine Z4b rfl rfl (fun _ => rfl) ?_)
        · rw [if_neg h34]
          have h56 : c = 5 ∨ c = 6 := by
            simp only [List.mem_cons, List.not_mem_nil, or_false] at hc
            rcases hc with h | h | h | h
            · exact absurd (.inl h) h34
            · exact absurd (.inr h) h34
            · exact .inl h
            · exact .inr h
          have hd := d.toNat_lt
          have ew : PV.int .i64 (IntKind.i64.wrap (d.toNat : Int)) = PV.int .i64 (d.toNat : Int) := Z3x (by rw [Z0l]; omega)
          obtain ⟨S3, q1, q2, q3⟩ := skip1 ht2 (n := 1) (by omega) (decide (d.toNat = 6) || decide (d.toNat = 7))
          obtain ⟨_, _, p2, hg2, hp2⟩ := id ht2
          simp only at hg2 hp2
          have hat3 := hp2.at (n := 0) (b := d) (by omega) rfl
          have hl := el_name hk h56 (kind := d.toNat) q2 (hx2.apart q3 (Ne.symm htx)) htx ⟨by omega, by omega, by omega, by have := q3.2.1; omega⟩ ⟨by omega, by omega⟩ (q3.get (by omega) (by omega) w2) (q3.get (by omega) (by omega) w1) (q3.get (by omega) (by omega) w0) rfl
          have hln : ∀ (fr : List Fr) (y : EX), adv 200 fr y = adv 200 [.code (elC [1, 1, 1, 1, 1, 0, 1, 2, 1, 4, 1, 1]), .block 0, .code (elC [1, 1, 1, 1, 1, 1])] .normal → V T (Go.AM.Ends pf_keys_Elem (· = elemPV (if (elemB c (d :: b) v).1 = ([], false) ∧ (elemB c (d :: b) v).2.1 = ([], false) then some (elemB c (d :: b) v).2.2 else none))) fr y (ecOf [(1, .ptr 0 0), (2, .ptr 1 0), (5, .ptr t 0), (6, .ptr B.next 0), (7, .ptr S1.next 0), (8, .int .i64 0), (9, .int .i64 d.toNat)]) S3 := hl
          by_cases h6 : d.toNat = 6
          · have d6 := Z13 (p := (d.toNat : Int) = 6) (by omega)
            rw [decide_eq_true h6, Bool.true_or] at q1
            refine Z0c rfl rfl ?_
            rcases h56 with rfl | rfl
            · repeat' first | ((with_reducible show V _ _ _ _ _ _); first | refine V_stage (hln _ _ rfl) ⟨rfl, rfl, rfl, rfl, rfl, rfl, rfl, trivial⟩ | refine V_X ⟨2, 17, B.next, [17, 6], [pv, .bool false], S0, B⟩ hS0 b4 (Nat.le_refl _) rfl ?_ | refine V_O rfl ?_ | refine Z1e rfl rfl ?_) | ((with_reducible show VO _ _ _ _ _ _ _); first | refine Z0a rfl hg2 rfl ?_ | refine Z0a rfl hg rfl ?_ | refine Z0z rfl hp ?_ | refine Z0q hc0 rfl ?_ | refine O_alloc1 hS2 ?_ | refine Z0a rfl w0 rfl ?_ | refine Z2q rfl rfl hat ?_ | refine Z2q rfl rfl hat3 ?_ | refine Z0q ew rfl ?_ | refine Z0q d6 rfl ?_ | refine Z25 q1 rfl rfl ?_ | refine Z02 rfl ?_ | refine Z05 rfl ?_ | refine Z03 ?_ | refine Z10 rfl ?_ | refine Z1j rfl rfl ?_) | ((with_reducible show VX _ _ _ _ _ _ _ _ _ _); first | refine X_nil1 hS1 rfl rfl (hD _ rfl rfl) ?_ | refine X_raw1 rfl rfl rfl rfl rfl b1 rfl ?_ | refine X_loadP rfl rfl rfl s0 B0 rfl ?_ | refine X_loadV rfl rfl rfl s0 B0 rfl ?_ | refine Z4b rfl rfl (fun _ => hbd _ _ _ rfl) ?_ | refine X_box rfl rfl rfl rfl rfl rfl hcp ?_ | refine X_move rfl rfl rfl rfl rfl ?_ | refine Z4b rfl rfl (fun _ => rfl) ?_)
            · repeat' first | ((with_reducible show V _ _ _ _ _ _); first | refine V_stage (hln _ _ rfl) ⟨rfl, rfl, rfl, rfl, rfl, rfl, rfl, trivial⟩ | refine V_X ⟨2, 17, B.next, [17, 6], [pv, .bool false], S0, B⟩ hS0 b4 (Nat.le_refl _) rfl ?_ | refine V_O rfl ?_ | refine Z1e rfl rfl ?_) | ((with_reducible show VO _ _ _ _ _ _ _); first | refine Z0a rfl hg2 rfl ?_ | refine Z0a rfl hg rfl ?_ | refine Z0z rfl hp ?_ | refine Z0q hc0 rfl ?_ | refine O_alloc1 hS2 ?_ | refine Z0a rfl w0 rfl ?_ | refine Z2q rfl rfl hat ?_ | refine Z2q rfl rfl hat3 ?_ | refine Z0q ew rfl ?_ | refine Z0q d6 rfl ?_ | refine Z25 q1 rfl rfl ?_ | refine Z02 rfl ?_ | refine Z05 rfl ?_ | refine Z03 ?_ | refine Z10 rfl ?_ | refine Z1j rfl rfl ?_) | ((with_reducible show VX _ _ _ _ _ _ _ _ _ _); first | refine X_nil1 hS1 rfl rfl (hD _ rfl rfl) ?_ | refine X_raw1 rfl rfl rfl rfl rfl b1 rfl ?_ | refine X_loadP rfl rfl rfl s0 B0 rfl ?_ | refine X_loadV rfl rfl rfl s0 B0 rfl ?_ | refine Z4b rfl rfl (fun _ => hbd _ _ _ rfl) ?_ | refine X_box rfl rfl rfl rfl rfl rfl hcp ?_ | refine X_move rfl rfl rfl rfl rfl ?_ | refine Z4b rfl rfl (fun _ => rfl) ?_)
          · have d6 := Z0n (p := (d.toNat : Int) = 6) (by omega)
            rw [decide_eq_false h6, Bool.false_or] at q1
            by_cases h7 : d.toNat = 7
            · have d7 := Z13 (p := (d.toNat : Int) = 7) (by omega)
              rw [decide_eq_true h7] at q1
              refine Z0c rfl rfl ?_
              rcases h56 with rfl | rfl
              · repeat' first | ((with_reducible show V _ _ _ _ _ _); first | refine V_stage (hln _ _ rfl) ⟨rfl, rfl, rfl, rfl, rfl, rfl, rfl, trivial⟩ | refine V_X ⟨2, 17, B.next, [17, 6], [pv, .bool false], S0, B⟩ hS0 b4 (Nat.le_refl _) rfl ?_ | refine V_O rfl ?_ | refine Z1e rfl rfl ?_) | ((with_reducible show VO _ _ _ _ _ _ _); first | refine Z0a rfl hg2 rfl ?_ | refine Z0a rfl hg rfl ?_ | refine Z0z rfl hp ?_ | refine Z0q hc0 rfl ?_ | refine O_alloc1 hS2 ?_ | refine Z0a rfl w0 rfl ?_ | refine Z2q rfl rfl hat ?_ | refine Z2q rfl rfl hat3 ?_ | refine Z0q ew rfl ?_ | refine Z0q d6 rfl ?_ | refine Z0q d7 rfl ?_ | refine Z25 q1 rfl rfl ?_ | refine Z02 rfl ?_ | refine Z05 rfl ?_ | refine Z03 ?_ | refine Z10 rfl ?_) | ((with_reducible show VX _ _ _ _ _ _ _ _ _ _); first | refine X_nil1 hS1 rfl rfl (hD _ rfl rfl) ?_ | refine X_raw1 rfl rfl rfl rfl rfl b1 rfl ?_ | refine X_loadP rfl rfl rfl s0 B0 rfl ?_ | refine X_loadV rfl rfl rfl s0 B0 rfl ?_ | refine Z4b rfl rfl (fun _ => hbd _ _ _ rfl) ?_ | refine X_box rfl rfl rfl rfl rfl rfl hcp ?_ | refine X_move rfl rfl rfl rfl rfl ?_ | refine Z4b rfl rfl (fun _ => rfl) ?_)
              · repeat' first | ((with_reducible show V _ _ _ _ _ _); first | refine V_stage (hln _ _ rfl) ⟨rfl, rfl, rfl, rfl, rfl, rfl, rfl, trivial⟩ | refine V_X ⟨2, 17, B.next, [17, 6], [pv, .bool false], S0, B⟩ hS0 b4 (Nat.le_refl _) rfl ?_ | refine V_O rfl ?_ | refine Z1e rfl rfl ?_) | ((with_reducible show VO _ _ _ _ _ _ _); first | refine Z0a rfl hg2 rfl ?_ | refine Z0a rfl hg rfl ?_ | refine Z0z rfl hp ?_ | refine Z0q hc0 rfl ?_ | refine O_alloc1 hS2 ?_ | refine Z0a rfl w0 rfl ?_ | refine Z2q rfl rfl hat ?_ | refine Z2q rfl rfl hat3 ?_ | refine Z0q ew rfl ?_ | refine Z0q d6 rfl ?_ | refine Z0q d7 rfl ?_ | refine Z25 q1 rfl rfl ?_ | refine Z02 rfl ?_ | refine Z05 rfl ?_ | refine Z03 ?_ | refine Z10 rfl ?_) | ((with_reducible show VX _ _ _ _ _ _ _ _ _ _); first | refine X_nil1 hS1 rfl rfl (hD _ rfl rfl) ?_ | refine X_raw1 rfl rfl rfl rfl rfl b1 rfl ?_ | refine X_loadP rfl rfl rfl s0 B0 rfl ?_ | refine X_loadV rfl rfl rfl s0 B0 rfl ?_ | refine Z4b rfl rfl (fun _ => hbd _ _ _ rfl) ?_ | refine X_box rfl rfl rfl rfl rfl rfl hcp ?_ | refine X_move rfl rfl rfl rfl rfl ?_ | refine Z4b rfl rfl (fun _ => rfl) ?_)
            · have d7 := Z0n (p := (d.toNat : Int) = 7) (by omega)
              rw [decide_eq_false h7] at q1
              refine Z0c rfl rfl ?_
              rcases h56 with rfl | rfl
              · repeat' first | ((with_reducible show V _ _ _ _ _ _); first | refine V_stage (hln _ _ rfl) ⟨rfl, rfl, rfl, rfl, rfl, rfl, rfl, trivial⟩ | refine V_X ⟨2, 17, B.next, [17, 6], [pv, .bool false], S0, B⟩ hS0 b4 (Nat.le_refl _) rfl ?_ | refine V_O rfl ?_ | refine Z1e rfl rfl ?_) | ((with_reducible show VO _ _ _ _ _ _ _); first | refine Z0a rfl hg2 rfl ?_ | refine Z0a rfl hg rfl ?_ | refine Z0z rfl hp ?_ | refine Z0q hc0 rfl ?_ | refine O_alloc1 hS2 ?_ | refine Z0a rfl w0 rfl ?_ | refine Z2q rfl rfl hat ?_ | refine Z2q rfl rfl hat3 ?_ | refine Z0q ew rfl ?_ | refine Z0q d6 rfl ?_ | refine Z0q d7 rfl ?_ | refine Z25 q1 rfl rfl ?_ | refine Z02 rfl ?_ | refine Z05 rfl ?_ | refine Z03 ?_ | refine Z10 rfl ?_) | ((with_reducible show VX _ _ _ _ _ _ _ _ _ _); first | refine X_nil1 hS1 rfl rfl (hD _ rfl rfl) ?_ | refine X_raw1 rfl rfl rfl rfl rfl b1 rfl ?_ | refine X_loadP rfl rfl rfl s0 B0 rfl ?_ | refine X_loadV rfl rfl rfl s0 B0 rfl ?_ | refine Z4b rfl rfl (fun _ => hbd _ _ _ rfl) ?_ | refine X_box rfl rfl rfl rfl rfl rfl hcp ?_ | refine X_move rfl rfl rfl rfl rfl ?_ | refine Z4b rfl rfl (fun _ => rfl) ?_)
              · repeat' first | ((with_reducible show V _ _ _ _ _ _); first | refine V_stage (hln _ _ rfl) ⟨rfl, rfl, rfl, rfl, rfl, rfl, rfl, trivial⟩ | refine V_X ⟨2, 17, B.next, [17, 6], [pv, .bool false], S0, B⟩ hS0 b4 (Nat.le_refl _) rfl ?_ | refine V_O rfl ?_ | refine Z1e rfl rfl ?_) | ((with_reducible show VO _ _ _ _ _ _ _); first | refine Z0a rfl hg2 rfl ?_ | refine Z0a rfl hg rfl ?_ | refine Z0z rfl hp ?_ | refine Z0q hc0 rfl ?_ | refine O_alloc1 hS2 ?_ | refine Z0a rfl w0 rfl ?_ | refine Z2q rfl rfl hat ?_ | refine Z2q rfl rfl hat3 ?_ | refine Z0q ew rfl ?_ | refine Z0q d6 rfl ?_ | refine Z0q d7 rfl ?_ | refine Z25 q1 rfl rfl ?_ | refine Z02 rfl ?_ | refine Z05 rfl ?_ | refine Z03 ?_ | refine Z10 rfl ?_) | ((with_reducible show VX _ _ _ _ _ _ _ _ _ _); first | refine X_nil1 hS1 rfl rfl (hD _ rfl rfl) ?_ | refine X_raw1 rfl rfl rfl rfl rfl b1 rfl ?_ | refine X_loadP rfl rfl rfl s0 B0 rfl ?_ | refine X_loadV rfl rfl rfl s0 B0 rfl ?_ | refine Z4b rfl rfl (fun _ => hbd _ _ _ rfl) ?_ | refine X_box rfl rfl rfl rfl rfl rfl hcp ?_ | refine X_move rfl rfl rfl rfl rfl ?_ | refine Z4b rfl rfl (fun _ => rfl) ?_)
    · refine (?_ : elemR (c :: b) v = none) ▸ hbad ?_
      · simp only [elemR]; rw [if_neg (fun h => hc h.1)]
      · simp only [openR]; rw [if_neg hc]
end Go.Proofs.YtgdjnlopdpjnaaaGreatDoor
set_option linter.unusedVariables false
set_option linter.unusedSimpArgs false
namespace Go.Proofs.YtgdjnlopdpjnaaaGreatDoor
open Go Go.AM Go.RowKit
theorem run_rVtx (n : Int) : T.R (.call n_rambleref02_Vertex [.int .i64 n] (.agg [.int .i64 6, .int .i64 n, .str [], .nilSl])) := by
  refine Z0c rfl rfl ?_
  repeat' first | refine V_O rfl ?_ | refine Z1t rfl rfl ?_ | ((with_reducible show VO _ _ _ _ _ _ _); first | refine Z02 rfl ?_ | refine Z05 rfl ?_ | refine Z03 ?_)
  rfl
theorem run_rEdg (n : Int) : T.R (.call n_rambleref02_Edge [.int .i64 n] (.agg [.int .i64 7, .int .i64 n, .str [], .nilSl])) := by
  refine Z0c rfl rfl ?_
  repeat' first | refine V_O rfl ?_ | refine Z1t rfl rfl ?_ | ((with_reducible show VO _ _ _ _ _ _ _); first | refine Z02 rfl ?_ | refine Z05 rfl ?_ | refine Z03 ?_)
  rfl
def knows : List UInt8 := [107, 110, 111, 119, 115]
def begE : Lnk := ⟨3, knows, 1, 2, []⟩
def begX : List UInt8 := Z1v 3 1 knows ++ kB (vEdg 3)
theorem begE_len : (lnkK begE).length = 4 := by
  have h : idB begE.id = true ∧ idB begE.out = true ∧ idB begE.into = true := by decide
  simp only [lnkK, if_pos h, idxK, begE]
  rfl
theorem begE_one : (lnkK begE)[1]? = some (begX, Z2g 2) := by rfl
theorem begK : Z35 (vVtx 1) = [1, 6, 128, 0, 0, 0, 0, 0, 0, 1] := by rfl
theorem begV : elemR begX (Z2g 2) = some (vEdg 3, 2) := by kernel_rfl
theorem run_kBegun : T.R (.call n_ramblelaw11_begun [] (.bool true)) := by
  obtain ⟨q, h1, h2⟩ := run_Edge (x := begE) (cs := [.int .i64 3, .str knows, .int .i64 1, .int .i64 2, .nilSl]) ⟨by simp [I64, begE], by decide, by simp [I64, begE], by simp [I64, begE], .nilSl, rfl, .inl ⟨rfl, rfl⟩⟩ (by simp [begE]) (by decide) (by decide) (by decide)
  obtain ⟨e1, e2, e3⟩ := h2.len
  rw [begE_len] at e1
  have hqp := h2.pl (fun a _ cs h => h.pl)
  obtain ⟨cs, hat, pk, pv, rfl, c1, c2⟩ := h2.at (fun _ _ h => h.len2) begE_one
  have hpk := c1.pl
  have hpv := c2.pl
  have ho1 := bv_one c1
  have ho2 := bv_one c2
  obtain ⟨qk, k1, k2⟩ := (keyOneR (vc_vtx (n := 1) (by simp [I64]))).call
  rw [begK] at k2
  have hkp := k2.pl
  have heq := run_Equal k2 (.sl [1, 6, 128, 0, 0, 0, 0, 0, 0, 1] true)
  rw [decide_eq_true rfl] at heq
  have hpl10 := (BV.sl [1, 6, 128, 0, 0, 0, 0, 0, 0, 1] true).pl
  have hel := run_Elem c1 c2 (by decide) (by decide)
  rw [begV] at hel
  have hs := run_Same (vc_edg (n := 3) (by simp [I64])) (vc_edg (n := 3) (by simp [I64]))
  have hs0 : decide (cmpV (vEdg 3) (vEdg 3) = 0) = true := by decide
  rw [hs0] at hs
  have r1 := run_rVtx 1
  have r2 := run_rEdg 3
  have hcl : [pk, pv].length = 2 := rfl
  refine Z0c rfl rfl ?_
  repeat' first | ((with_reducible show V _ _ _ _ _ _); first | refine V_O rfl ?_ | refine Z1e rfl rfl ?_ | refine Z1t rfl rfl ?_ | refine V_D rfl ?_) | ((with_reducible show VO _ _ _ _ _ _ _); first | refine Z0u rfl rfl h1 ?_ | refine Z0p rfl e1 e2 ?_ | refine Z0u rfl rfl r1 ?_ | refine Z0u rfl rfl k1 ?_ | refine Z0u rfl rfl heq ?_ | refine Z2q rfl rfl hat ?_ | refine O_loadI rfl hcl ?_ | refine Z0u rfl rfl hel ?_ | refine Z02 rfl ?_ | refine Z05 rfl ?_ | refine Z03 ?_ | refine Z10 rfl ?_) | ((with_reducible show VD _ _ _ _ _ _ _); first | refine D_cA rfl rfl r2 ?_ | refine D_cA rfl rfl hs ?_ | refine Z1b rfl ?_ | refine D_nil' ?_ | refine D_gT' rfl ?_)
  rfl
end Go.Proofs.YtgdjnlopdpjnaaaGreatDoor
set_option linter.unusedVariables false
set_option linter.unusedSimpArgs false
namespace Go.Proofs.YtgdjnlopdpjnaaaGreatDoor
open Go Go.AM Go.RowKit
end Go.Proofs.YtgdjnlopdpjnaaaGreatDoor
set_option linter.unusedVariables false
set_option linter.unusedSimpArgs false
namespace Go.Proofs.YtgdjnlopdpjnaaaGreatDoor
open Go Go.AM Go.RowKit
theorem idB_cases {n : Int} : (n < 1 ∧ idB n = false) ∨ (¬ n < 1 ∧ 281474976710656 < n ∧ idB n = false) ∨ (¬ n < 1 ∧ ¬ 281474976710656 < n ∧ idB n = true) := by
  by_cases h1 : n < 1
  · exact .inl ⟨h1, by simp [idB]; omega⟩
  · by_cases h2 : 281474976710656 < n
    · exact .inr (.inl ⟨h1, h2, by simp [idB]; omega⟩)
    · exact .inr (.inr ⟨h1, h2, by simp [idB]; omega⟩)
end Go.Proofs.YtgdjnlopdpjnaaaGreatDoor
set_option linter.unusedVariables false
set_option linter.unusedSimpArgs false
namespace Go.Proofs.YtgdjnlopdpjnaaaGreatDoor
open Go Go.AM Go.RowKit
end Go.Proofs.YtgdjnlopdpjnaaaGreatDoor

/- ramblelaw11.begun. · ramblelaw11.stands: a graph of one vertex, and of one vertex and an edge. · ramblelaw11.stands: the walk of the graph's check. · ramblelaw11.stands. · rambleref01.Put and Zig, rambleref03.put and Put. · Keys: what stands together (plain). · ramblelaw11.KeysTogether: the walk. · keys: readers, where what is read was put (text, props). · keys: properties are read as they were put. -/
import Derived.Test.YtgdjnlopdpjnaaaGreatDoorKeyNToKeyO
import Derived.Test.YtgdjnlopdpjnaaaGreatDoorKeyBToKeyG
import Derived.Test.YtgdjnlopdpjnaaaGreatDoorCodEToKeyA
import Derived.Test.YtgdjnlopdpjnaaaGreatDoorReadDToReadC
import Derived.Test.YtgdjnlopdpjnaaaGreatDoorCodBToValG
set_option linter.unusedVariables false
set_option linter.unusedSimpArgs false
namespace Go.Proofs.YtgdjnlopdpjnaaaGreatDoor
open Go Go.AM Go.RowKit
theorem run_rVtx (n : Int) : T.R (.call Zb2 [.int .i64 n] (.agg [.int .i64 6, .int .i64 n, .str [], .nilSl])) := by
  refine Zd rfl rfl ?_
  repeat' first | refine Z1 rfl ?_ | refine Zc rfl rfl ?_ | ((with_reducible show VO _ _ _ _ _ _ _); first | refine Z0 rfl ?_ | refine Z8 rfl ?_ | refine Z2 ?_)
  rfl
theorem run_rEdg (n : Int) : T.R (.call Ze8 [.int .i64 n] (.agg [.int .i64 7, .int .i64 n, .str [], .nilSl])) := by
  refine Zd rfl rfl ?_
  repeat' first | refine Z1 rfl ?_ | refine Zc rfl rfl ?_ | ((with_reducible show VO _ _ _ _ _ _ _); first | refine Z0 rfl ?_ | refine Z8 rfl ?_ | refine Z2 ?_)
  rfl
def knows : List UInt8 := [107, 110, 111, 119, 115]
def begE : Lnk := ⟨3, knows, 1, 2, []⟩
def begX : List UInt8 := Z1x 3 1 knows ++ kB (Z2z 3)
theorem begE_len : (lnkK begE).length = 4 := by
  have h : idB begE.id = true ∧ idB begE.out = true ∧ idB begE.into = true := by decide
  simp only [lnkK, if_pos h, Zku, begE]
  rfl
theorem begE_one : (lnkK begE)[1]? = some (begX, Zt 2) := by rfl
theorem begK : Z25 (Z4u 1) = [1, 6, 128, 0, 0, 0, 0, 0, 0, 1] := by rfl
theorem begV : Zct begX (Zt 2) = some (Z2z 3, 2) := by kernel_rfl
theorem run_kBegun : T.R (.call Zcl [] (.bool true)) := by
  obtain ⟨q, h1, h2⟩ := run_Edge (x := begE) (cs := [.int .i64 3, .str knows, .int .i64 1, .int .i64 2, .nilSl]) ⟨by simp [I64, begE], by decide, by simp [I64, begE], by simp [I64, begE], .nilSl, rfl, .inl ⟨rfl, rfl⟩⟩ (by simp [begE]) (by decide) (by decide) (by decide)
  obtain ⟨e1, e2, e3⟩ := h2.len
  rw [begE_len] at e1
  have hqp := h2.pl (fun a _ cs h => h.pl)
  obtain ⟨cs, hat, pk, pv, rfl, c1, c2⟩ := h2.at (fun _ _ h => h.len2) begE_one
  have hpk := c1.pl
  have hpv := c2.pl
  have ho1 := Z84 c1
  have ho2 := Z84 c2
  obtain ⟨qk, k1, k2⟩ := (keyOneR (vc_vtx (n := 1) (by simp [I64]))).call
  rw [begK] at k2
  have hkp := k2.pl
  have heq := run_Equal k2 (.sl [1, 6, 128, 0, 0, 0, 0, 0, 0, 1] true)
  rw [decide_eq_true rfl] at heq
  have hpl10 := (BV.sl [1, 6, 128, 0, 0, 0, 0, 0, 0, 1] true).pl
  have hel := run_Elem c1 c2 (by decide) (by decide)
  rw [begV] at hel
  have hs := run_Same (vc_edg (n := 3) (by simp [I64])) (vc_edg (n := 3) (by simp [I64]))
  have hs0 : decide (Zd0 (Z2z 3) (Z2z 3) = 0) = true := by decide
  rw [hs0] at hs
  have r1 := run_rVtx 1
  have r2 := run_rEdg 3
  have hcl : [pk, pv].length = 2 := rfl
  refine Zd rfl rfl ?_
  repeat' first | ((with_reducible show V _ _ _ _ _ _); first | refine Z1 rfl ?_ | refine Zb rfl rfl ?_ | refine Zc rfl rfl ?_ | refine V_D rfl ?_) | ((with_reducible show VO _ _ _ _ _ _ _); first | refine Z7 rfl rfl h1 ?_ | refine Z07 rfl e1 e2 ?_ | refine Z7 rfl rfl r1 ?_ | refine Z7 rfl rfl k1 ?_ | refine Z7 rfl rfl heq ?_ | refine Zq rfl rfl hat ?_ | refine O_loadI rfl hcl ?_ | refine Z7 rfl rfl hel ?_ | refine Z0 rfl ?_ | refine Z8 rfl ?_ | refine Z2 ?_ | refine Zf rfl ?_) | ((with_reducible show VD _ _ _ _ _ _ _); first | refine Z4a rfl rfl r2 ?_ | refine Z4a rfl rfl hs ?_ | refine Z0h rfl ?_ | refine Z1k ?_ | refine Z9m rfl ?_)
  rfl
theorem Zfe {T : Tb} {Q : Z41} {k : List Fr} {ρ : EC} {st : St} {l : List POp} {kill : List Nat} {d : Option Nat} {x : Opd} {n : Nat} {agg : Bool} {p v : PV} (hx : x.get ρ = some p) (hl : loadAt st.get n agg p = some v) (h : VD T Q l kill k (ρ.sets d v) st) : VD T Q (⟨d, none, .load n agg x⟩ :: l) kill k ρ st :=
  Z0h (by simp only [Zj, Z5e, hx]; exact hl) h
def notUp (pr : Option Prp) (x : Prp) : Bool := match pr with
  | none => false
  | some y => bytesLess x.name y.name || decide (x.name = y.name)
def okP : Option Prp → List Prp → Bool
  | _, [] => true
  | pr, x :: r => Z2o x.name && !notUp pr x && decide (chk x.val = 0) && okP (some x) r
def Z27 (l : List Prp) : Bool := decide (l.length ≤ 16) && okP none l
set_option maxHeartbeats 4000000 in
theorem okP_loop {l : List Prp} {p : PV} (hp : LR PpC p l) : ∀ (rest pre : List Prp), l = pre ++ rest →
    V T (PE fun x e st' => st' = emptySt ∧ ((x = .exit 0 ∧ okP pre.getLast? rest = true) ∨ (x = .ret ∧ e = Zbe [(2, .bool false)] ∧ okP pre.getLast? rest = false))) [.code (.loop Z3x)] .normal (Zbe [(0, p), (3, .int .i64 pre.length)]) emptySt := by
  obtain ⟨e1, e2, hbig⟩ := hp.len
  intro rest
  induction rest with
  | nil =>
    intro pre hl
    have hlt : decide ((pre.length : Int) < l.length) = false := decide_eq_false (by subst hl; simp)
    refine Zi ?_
    repeat' first | ((with_reducible show V _ _ _ _ _ _); first | refine Z2t hlt rfl rfl ?_ | refine Zbf [] rfl trivial ⟨rfl, .inl ⟨rfl, rfl⟩⟩ | refine Z1 rfl ?_) | ((with_reducible show VO _ _ _ _ _ _ _); first | refine Z07 rfl e1 e2 ?_ | refine Z0 rfl ?_ | refine Z2 ?_)
  | cons x rest ih =>
    intro pre hl
    have hlt : decide ((pre.length : Int) < l.length) = true := decide_eq_true (by subst hl; simp; omega)
    have hpl : pre.length < l.length := by subst hl; simp
    obtain ⟨cs, hat, hvc⟩ := hp.at (fun _ _ h => h.len5) (j := pre.length) (a := x) (by subst hl; simp)
    have hcl := hvc.len5
    obtain ⟨hnl, vc, rfl, hvv⟩ := hvc
    have hw : IntKind.i64.wrap ((pre.length : Int) + 1) = ((pre ++ [x]).length : Int) := by rw [Z03]; simp; omega
    have hvl := hvv.len4
    have hvp := hvv.pl
    have hnm := Zdc hnl
    have hck := run_Check2 hvv
    have hld : ∀ look : Nat → Option Tok, loadAt look 4 true (.iptr (.str x.name :: vc) 1) = some (.agg vc) := fun look => by
      have h1 : (vc.drop 0).take 4 = vc := by simp [← hvl]
      simp only [loadAt, behind, Option.bind_some, slice?]
      rw [if_pos (by simp [hvl])]
      simp [← hvl]
    have hi := ih (pre ++ [x]) (by rw [hl]; simp)
    have hgl : (pre ++ [x]).getLast? = some x := by simp
    rw [hgl] at hi
    rw [okP]
    refine Zi ?_
    by_cases hn : Z2o x.name = true
    · rw [hn] at hnm ⊢
      have hgo : ∀ up : Bool, notUp pre.getLast? x = up → (PV.int IntKind.i64 (chk x.val) = .int .i64 0 ∨ True) := fun _ _ => .inr trivial
      by_cases hpre : pre = []
      · subst hpre
        have hu : notUp ([] : List Prp).getLast? x = false := rfl
        rw [hu]
        by_cases hc : chk x.val = 0
        · rw [hc] at hck ⊢
          repeat' first | ((with_reducible show V _ _ _ _ _ _); first | refine Z22 hlt rfl rfl ?_ | refine Z8q (V_re rfl hi ⟨rfl, Z2n hw, trivial⟩) ?_ | refine Z1 rfl ?_ | refine Zb rfl rfl ?_ | refine V_D rfl ?_) | ((with_reducible show VO _ _ _ _ _ _ _); first | refine Z07 rfl e1 e2 ?_ | refine Z0 rfl ?_ | refine Z2 ?_) | ((with_reducible show VD _ _ _ _ _ _ _); first | refine Zh3 rfl rfl hat ?_ | refine Z4a rfl rfl hnm ?_ | refine Z4a rfl rfl hck ?_ | refine Zfe rfl (hld _) ?_ | refine Z0h rfl ?_ | refine Z1k ?_ | refine Z9m rfl ?_ | refine Zcy rfl rfl ?_)
          rintro y e st' ⟨rfl, ⟨rfl, h⟩ | ⟨rfl, rfl, h⟩⟩
          · exact ⟨rfl, .inl ⟨rfl, by simp [h]⟩⟩
          · exact ⟨rfl, .inr ⟨rfl, rfl, by simp [h]⟩⟩
        · have hd := Zh (p := chk x.val = 0) hc
          repeat' first | ((with_reducible show V _ _ _ _ _ _); first | refine Z22 hlt rfl rfl ?_ | refine Zbf [(2, .bool false)] rfl ⟨rfl, trivial⟩ ⟨rfl, .inr ⟨rfl, rfl, by simp [hc]⟩⟩ | refine Z1 rfl ?_ | refine Za rfl rfl ?_ | refine V_D rfl ?_) | ((with_reducible show VO _ _ _ _ _ _ _); first | refine Z07 rfl e1 e2 ?_ | refine Z0 rfl ?_ | refine Z2 ?_) | ((with_reducible show VD _ _ _ _ _ _ _); first | refine Zh3 rfl rfl hat ?_ | refine Z4a rfl rfl hnm ?_ | refine Z4a rfl rfl hck ?_ | refine Zfe rfl (hld _) ?_ | refine Z6q (Zal (p := chk x.val = 0) hc) rfl ?_ | refine Z0h rfl ?_ | refine Z1k ?_ | refine Z9m rfl ?_ | refine Zcy rfl rfl ?_)
      · obtain ⟨pre0, y, hpy⟩ : ∃ pre0 y, pre = pre0 ++ [y] := ⟨pre.dropLast, pre.getLast hpre, (List.dropLast_concat_getLast hpre).symm⟩
        subst hpy
        have hgl2 : (pre0 ++ [y]).getLast? = some y := by simp
        rw [hgl2]
        have hpos := Zs (p := ((pre0 ++ [y]).length : Int) > 0) (by simp)
        have hw1 : PV.int .i64 (IntKind.i64.wrap (((pre0 ++ [y]).length : Int) - 1)) = PV.int .i64 (pre0.length : Int) := Z1u (by rw [Z03]; simp at hpl ⊢; omega)
        obtain ⟨cs2, hat2, hvc2⟩ := hp.at (fun _ _ h => h.len5) (j := pre0.length) (a := y) (by subst hl; simp)
        obtain ⟨hnl2, vc2, rfl, hvv2⟩ := hvc2
        cases hu : notUp (some y) x with
        | true =>
          have hu2 : PV.bool (bytesLess x.name y.name || decide (x.name = y.name)) = .bool true := by simpa [notUp] using hu
          repeat' first | ((with_reducible show V _ _ _ _ _ _); first | refine Z22 hlt rfl rfl ?_ | refine Zbf [(2, .bool false)] rfl ⟨rfl, trivial⟩ ⟨rfl, .inr ⟨rfl, rfl, by simp⟩⟩ | refine Z1 rfl ?_ | refine Za rfl rfl ?_ | refine V_D rfl ?_) | ((with_reducible show VO _ _ _ _ _ _ _); first | refine Z07 rfl e1 e2 ?_ | refine Z0 rfl ?_ | refine Z2 ?_) | ((with_reducible show VD _ _ _ _ _ _ _); first | refine Zh3 rfl rfl hat ?_ | refine Zh3 rfl rfl hat2 ?_ | refine Z4a rfl rfl hnm ?_ | refine Z6q hpos rfl ?_ | refine Z6q hw1 rfl ?_ | refine Z6q hu2 rfl ?_ | refine Z0h rfl ?_ | refine Z1k ?_ | refine Z9m rfl ?_ | refine Zcy rfl rfl ?_)
        | false =>
          have hu2 : PV.bool (bytesLess x.name y.name || decide (x.name = y.name)) = .bool false := by simpa [notUp] using hu
          by_cases hc : chk x.val = 0
          · rw [hc] at hck ⊢
            repeat' first | ((with_reducible show V _ _ _ _ _ _); first | refine Z22 hlt rfl rfl ?_ | refine Z8q (V_re rfl hi ⟨rfl, Z2n hw, trivial⟩) ?_ | refine Z1 rfl ?_ | refine Zb rfl rfl ?_ | refine V_D rfl ?_) | ((with_reducible show VO _ _ _ _ _ _ _); first | refine Z07 rfl e1 e2 ?_ | refine Z0 rfl ?_ | refine Z2 ?_) | ((with_reducible show VD _ _ _ _ _ _ _); first | refine Zh3 rfl rfl hat ?_ | refine Zh3 rfl rfl hat2 ?_ | refine Z4a rfl rfl hnm ?_ | refine Z4a rfl rfl hck ?_ | refine Zfe rfl (hld _) ?_ | refine Z6q hpos rfl ?_ | refine Z6q hw1 rfl ?_ | refine Z6q hu2 rfl ?_ | refine Z0h rfl ?_ | refine Z1k ?_ | refine Z9m rfl ?_)
            rintro y e st' ⟨rfl, ⟨rfl, h⟩ | ⟨rfl, rfl, h⟩⟩
            · exact ⟨rfl, .inl ⟨rfl, by simp [h]⟩⟩
            · exact ⟨rfl, .inr ⟨rfl, rfl, by simp [h]⟩⟩
          · repeat' first | ((with_reducible show V _ _ _ _ _ _); first | refine Z22 hlt rfl rfl ?_ | refine Zbf [(2, .bool false)] rfl ⟨rfl, trivial⟩ ⟨rfl, .inr ⟨rfl, rfl, by simp [hc]⟩⟩ | refine Z1 rfl ?_ | refine Za rfl rfl ?_ | refine V_D rfl ?_) | ((with_reducible show VO _ _ _ _ _ _ _); first | refine Z07 rfl e1 e2 ?_ | refine Z0 rfl ?_ | refine Z2 ?_) | ((with_reducible show VD _ _ _ _ _ _ _); first | refine Zh3 rfl rfl hat ?_ | refine Zh3 rfl rfl hat2 ?_ | refine Z4a rfl rfl hnm ?_ | refine Z4a rfl rfl hck ?_ | refine Zfe rfl (hld _) ?_ | refine Z6q hpos rfl ?_ | refine Z6q hw1 rfl ?_ | refine Z6q hu2 rfl ?_ | refine Z6q (Zal (p := chk x.val = 0) hc) rfl ?_ | refine Z0h rfl ?_ | refine Z1k ?_ | refine Z9m rfl ?_)
    · have hn2 : Z2o x.name = false := by simpa using hn
      rw [hn2] at hnm ⊢
      repeat' first | ((with_reducible show V _ _ _ _ _ _); first | refine Z22 hlt rfl rfl ?_ | refine Zbf [(2, .bool false)] rfl ⟨rfl, trivial⟩ ⟨rfl, .inr ⟨rfl, rfl, rfl⟩⟩ | refine Z1 rfl ?_ | refine Za rfl rfl ?_ | refine V_D rfl ?_) | ((with_reducible show VO _ _ _ _ _ _ _); first | refine Z07 rfl e1 e2 ?_ | refine Z0 rfl ?_ | refine Z2 ?_) | ((with_reducible show VD _ _ _ _ _ _ _); first | refine Zh3 rfl rfl hat ?_ | refine Z4a rfl rfl hnm ?_ | refine Z0h rfl ?_ | refine Z1k ?_ | refine D_gU' rfl ?_ | refine Zcy rfl rfl ?_)
theorem Zc4 {l : List Prp} {p : PV} (hp : LR PpC p l) : T.R (.call Zci [p] (.bool (Z27 l))) := by
  obtain ⟨e1, e2, hbig⟩ := hp.len
  have hpp := hp.pl (fun a _ cs h => h.pl)
  have hl := okP_loop hp l [] rfl
  by_cases h16 : l.length ≤ 16
  · have hd := Zh (p := (l.length : Int) > 16) (by omega)
    have e : Z27 l = okP none l := by simp [Z27, h16]
    rw [e]
    refine Zd rfl rfl ?_
    repeat' first | ((with_reducible show V _ _ _ _ _ _); first | refine Z8r rfl hl ⟨rfl, rfl, trivial⟩ ?_ | refine Z1 rfl ?_ | refine Zb rfl rfl ?_) | ((with_reducible show VO _ _ _ _ _ _ _); first | refine Z07 rfl e1 e2 ?_ | refine Z4 hd rfl ?_ | refine Z0 rfl ?_ | refine Z2 ?_)
    rintro x e' st' ⟨rfl, ⟨rfl, h⟩ | ⟨rfl, rfl, h⟩⟩
    · repeat' first | refine Z1 rfl ?_ | refine Zc rfl rfl ?_ | refine Z0 rfl ?_ | refine Z2 ?_
      exact congrArg _ h.symm
    · repeat' first | refine Zc rfl rfl ?_
      exact congrArg _ h.symm
  · have hd := Zs (p := (l.length : Int) > 16) (by omega)
    have e : Z27 l = false := by simp [Z27, h16]
    rw [e]
    refine Zd rfl rfl ?_
    repeat' first | ((with_reducible show V _ _ _ _ _ _); first | refine Z1 rfl ?_ | refine Za rfl rfl ?_ | refine Zc rfl rfl ?_) | ((with_reducible show VO _ _ _ _ _ _ _); first | refine Z07 rfl e1 e2 ?_ | refine Z4 hd rfl ?_ | refine Z0 rfl ?_ | refine Z2 ?_)
    rfl
def Z99 (v : Vtx) : Bool := idB v.id && Z2o v.label && Z27 v.props
def Za0 (v : Vtx) (e : Lnk) : Bool := idB e.id && Z2o e.label && Z27 e.props && !decide (v.id = e.id)
def Z5s (v : Vtx) (e : Lnk) : Bool := Z99 v && decide (e.out = v.id) && decide (e.into = v.id) && Za0 v e
def zV : List PV := [.int .i64 0, .str [], .nilSl]
theorem run_gV {i : Int} {s : List UInt8} {p pE : PV} (hp : Pl p) (hE : Pl pE) (hE1 : PV.one pE = true) (hp1 : PV.one p = true) {last n : Int} : T.R (.call Zi4 [.agg [.sl [[.int .i64 i, .str s, p]] true, pE, .int .i64 last], .int .i64 n] (if i = n then .tuple [.agg [.int .i64 i, .str s, p], .bool true] else .tuple [.agg zV, .bool false])) := by
  have hst : storeAt ((emptySt.new (.var [.sl [[.int .i64 i, .str s, p]] true, pE, .int .i64 last])).new (.var zV)) (.ptr 1 0) (.agg [.int .i64 i, .str s, p]) = some (((emptySt.new (.var [.sl [[.int .i64 i, .str s, p]] true, pE, .int .i64 last])).new (.var zV)).put 1 (.var [.int .i64 i, .str s, p])) := Z01 St.get_new rfl
  have hone : (PV.agg [.int .i64 i, .str s, p]).cells.all PV.one = true := by
    show [PV.int .i64 i, .str s, p].all PV.one = true
    simp only [List.all_cons, List.all_nil, hp1]
    rfl
  by_cases h : i = n
  · have hd := Zs (p := i = n) h
    rw [if_pos h]
    refine Zd rfl rfl ?_
    repeat' first | ((with_reducible show V _ _ _ _ _ _); first | refine Z40 rfl (Zi ?_) | refine Z1 rfl ?_ | refine Za rfl rfl ?_ | refine Zc rfl rfl ?_) | ((with_reducible show VO _ _ _ _ _ _ _); first | refine Z4 hd rfl ?_ | refine Ze rfl rfl hone rfl rfl hst ?_ | refine Z0 rfl ?_ | refine Z8 rfl ?_ | refine Z2 ?_)
    rfl
  · have hd := Zh (p := i = n) h
    rw [if_neg h]
    refine Zd rfl rfl ?_
    repeat' first | ((with_reducible show V _ _ _ _ _ _); first | refine Z40 rfl (Zi ?_) | refine Z1 rfl ?_ | refine Za rfl rfl ?_ | refine Zb rfl rfl ?_ | refine Zc rfl rfl ?_) | ((with_reducible show VO _ _ _ _ _ _ _); first | refine Z4 hd rfl ?_ | refine Z0 rfl ?_ | refine Z8 rfl ?_ | refine Z2 ?_)
    rfl
theorem Zif {α : Type} {R : α → List PV → Prop} {p : PV} {l : List α} (h : LR R p l) : PV.one p = true := by
  rcases h with ⟨rfl, _⟩ | ⟨xs, f, rfl, _⟩ <;> rfl
theorem idB_cases {n : Int} : (n < 1 ∧ idB n = false) ∨ (¬ n < 1 ∧ 281474976710656 < n ∧ idB n = false) ∨ (¬ n < 1 ∧ ¬ 281474976710656 < n ∧ idB n = true) := by
  by_cases h1 : n < 1
  · exact .inl ⟨h1, by simp [idB]; omega⟩
  · by_cases h2 : 281474976710656 < n
    · exact .inr (.inl ⟨h1, h2, by simp [idB]; omega⟩)
    · exact .inr (.inr ⟨h1, h2, by simp [idB]; omega⟩)
set_option maxHeartbeats 4000000 in
theorem run_gCheck1 {v : Vtx} {cs : List PV} (hv : VtC v cs) : T.R (.call Z6a [.agg [.sl [cs] true, .nilSl, .int .i64 281474976710656]] (.int .i64 (if Z99 v = true then 0 else 103))) := by
  obtain ⟨hid, hlab, p, rfl, hp⟩ := hv
  have hpp := hp.pl (fun a _ cs h => h.pl)
  have hp1 := Zif hp
  have hnm := Zdc hlab
  have hpr := Zc4 hp
  have hone : (PV.agg [.int .i64 v.id, .str v.label, p]).cells.all PV.one = true := by
    show [PV.int .i64 v.id, .str v.label, p].all PV.one = true
    simp only [List.all_cons, List.all_nil, hp1]
    rfl
  rcases idB_cases (n := v.id) with ⟨h1, h2⟩ | ⟨h1, h3, h2⟩ | ⟨h1, h3, h2⟩
  · have d1 := Zs (p := v.id < 1) h1
    have e : Z99 v = false := by simp [Z99, h2]
    rw [e]
    refine Zd rfl rfl ?_
    repeat' first | ((with_reducible show V _ _ _ _ _ _); first | refine Z40 rfl (Zi ?_) | refine Z1 rfl ?_ | refine Za rfl rfl ?_ | refine Zb rfl rfl ?_ | refine Zc rfl rfl ?_ | refine V_D rfl ?_) | ((with_reducible show VO _ _ _ _ _ _ _); first | refine Ze rfl rfl hone rfl rfl rfl ?_ | refine Z0 rfl ?_ | refine Z8 rfl ?_ | refine Z2 ?_ | refine Zf rfl ?_) | ((with_reducible show VD _ _ _ _ _ _ _); first | refine Z6q (d := some 47) d1 rfl ?_ | refine Z0h rfl ?_ | refine Z1k ?_ | refine D_gU' rfl ?_ | refine Zcy rfl rfl ?_)
    rfl
  · have d1 := Zh (p := v.id < 1) h1
    have d2 := Zs (p := v.id > 281474976710656) h3
    have e : Z99 v = false := by simp [Z99, h2]
    rw [e]
    refine Zd rfl rfl ?_
    repeat' first | ((with_reducible show V _ _ _ _ _ _); first | refine Z40 rfl (Zi ?_) | refine Z1 rfl ?_ | refine Za rfl rfl ?_ | refine Zb rfl rfl ?_ | refine Zc rfl rfl ?_ | refine V_D rfl ?_) | ((with_reducible show VO _ _ _ _ _ _ _); first | refine Ze rfl rfl hone rfl rfl rfl ?_ | refine Z0 rfl ?_ | refine Z8 rfl ?_ | refine Z2 ?_ | refine Zf rfl ?_) | ((with_reducible show VD _ _ _ _ _ _ _); first | refine Z6q (d := some 47) d1 rfl ?_ | refine Z6q (d := some 53) d2 rfl ?_ | refine Z0h rfl ?_ | refine Z1k ?_ | refine Z9m rfl ?_ | refine D_gU' rfl ?_ | refine Zcy rfl rfl ?_)
    rfl
  · have d1 := Zh (p := v.id < 1) h1
    have d2 := Zh (p := v.id > 281474976710656) h3
    cases hn : Z2o v.label with
    | false =>
      have e : Z99 v = false := by simp [Z99, hn]
      rw [e]
      rw [hn] at hnm
      refine Zd rfl rfl ?_
      repeat' first | ((with_reducible show V _ _ _ _ _ _); first | refine Z40 rfl (Zi ?_) | refine Z1 rfl ?_ | refine Za rfl rfl ?_ | refine Zb rfl rfl ?_ | refine Zc rfl rfl ?_ | refine V_D rfl ?_) | ((with_reducible show VO _ _ _ _ _ _ _); first | refine Ze rfl rfl hone rfl rfl rfl ?_ | refine Z0 rfl ?_ | refine Z8 rfl ?_ | refine Z2 ?_ | refine Zf rfl ?_) | ((with_reducible show VD _ _ _ _ _ _ _); first | refine Z6q (d := some 47) d1 rfl ?_ | refine Z6q (d := some 53) d2 rfl ?_ | refine Z4a rfl rfl hnm ?_ | refine Z0h rfl ?_ | refine Z1k ?_ | refine Z9m rfl ?_ | refine Zcy rfl rfl ?_)
      rfl
    | true =>
      rw [hn] at hnm
      cases hq : Z27 v.props with
      | false =>
        have e : Z99 v = false := by simp [Z99, hq]
        rw [e]
        rw [hq] at hpr
        refine Zd rfl rfl ?_
        repeat' first | ((with_reducible show V _ _ _ _ _ _); first | refine Z40 rfl (Zi ?_) | refine Z1 rfl ?_ | refine Za rfl rfl ?_ | refine Zb rfl rfl ?_ | refine Zc rfl rfl ?_ | refine V_D rfl ?_) | ((with_reducible show VO _ _ _ _ _ _ _); first | refine Ze rfl rfl hone rfl rfl rfl ?_ | refine Z0 rfl ?_ | refine Z8 rfl ?_ | refine Z2 ?_ | refine Zf rfl ?_) | ((with_reducible show VD _ _ _ _ _ _ _); first | refine Z6q (d := some 47) d1 rfl ?_ | refine Z6q (d := some 53) d2 rfl ?_ | refine Z4a rfl rfl hnm ?_ | refine Z4a rfl rfl hpr ?_ | refine Z0h rfl ?_ | refine Z1k ?_ | refine Z9m rfl ?_ | refine Zcy rfl rfl ?_)
        rfl
      | true =>
        have e : Z99 v = true := by simp [Z99, h2, hn, hq]
        rw [e]
        rw [hq] at hpr
        refine Zd rfl rfl ?_
        repeat' first | ((with_reducible show V _ _ _ _ _ _); first | refine Z40 rfl (Zi ?_) | refine Z1 rfl ?_ | refine Za rfl rfl ?_ | refine Zb rfl rfl ?_ | refine Zc rfl rfl ?_ | refine V_D rfl ?_) | ((with_reducible show VO _ _ _ _ _ _ _); first | refine Ze rfl rfl hone rfl rfl rfl ?_ | refine Z0 rfl ?_ | refine Z8 rfl ?_ | refine Z2 ?_ | refine Zf rfl ?_) | ((with_reducible show VD _ _ _ _ _ _ _); first | refine Z6q (d := some 47) d1 rfl ?_ | refine Z6q (d := some 53) d2 rfl ?_ | refine Z4a rfl rfl hnm ?_ | refine Z4a rfl rfl hpr ?_ | refine Z0h rfl ?_ | refine Z1k ?_ | refine Z9m rfl ?_ | refine Zcy rfl rfl ?_)
        rfl
set_option maxHeartbeats 8000000 in
theorem run_gCheck2 {v : Vtx} {cs : List PV} (hv : VtC v cs) (hok : Z99 v = true) {e : Lnk} {ds : List PV} (he : LkC e ds) (ho : e.out = v.id) (hi : e.into = v.id) : T.R (.call Z6a [.agg [.sl [cs] true, .sl [ds] true, .int .i64 281474976710656]] (.int .i64 (if Za0 v e = true then 0 else 103))) := by
  obtain ⟨hid, hlab, p, rfl, hp⟩ := hv
  obtain ⟨hid', hlab', _, _, p', rfl, hp'⟩ := he
  have hpp := hp.pl (fun a _ cs h => h.pl)
  have hp1 := Zif hp
  have hpp' := hp'.pl (fun a _ cs h => h.pl)
  have hp1' := Zif hp'
  have hnm := Zdc hlab
  have hpr := Zc4 hp
  have hnm' := Zdc hlab'
  have hpr' := Zc4 hp'
  simp only [Z99, Bool.and_eq_true] at hok
  obtain ⟨⟨h2, hn⟩, hq⟩ := hok
  rw [hn] at hnm
  rw [hq] at hpr
  have h1 : ¬ v.id < 1 := by simp [idB] at h2; omega
  have h3 : ¬ v.id > 281474976710656 := by simp [idB] at h2; omega
  have d1 := Zh (p := v.id < 1) h1
  have d2 := Zh (p := v.id > 281474976710656) h3
  have hone : (PV.agg [.int .i64 v.id, .str v.label, p]).cells.all PV.one = true := by
    show [PV.int .i64 v.id, .str v.label, p].all PV.one = true
    simp only [List.all_cons, List.all_nil, hp1]
    rfl
  have hone' : (PV.agg [.int .i64 e.id, .str e.label, .int .i64 e.out, .int .i64 e.into, p']).cells.all PV.one = true := by
    show [PV.int .i64 e.id, .str e.label, .int .i64 e.out, .int .i64 e.into, p'].all PV.one = true
    simp only [List.all_cons, List.all_nil, hp1']
    rfl
  have hpE : Pl (.sl [[.int .i64 e.id, .str e.label, .int .i64 e.out, .int .i64 e.into, p']] true) := .sl _ _ (Z3i (Z0b (.int _ _) (Z0b (.str _) (Z0b (.int _ _) (Z0b (.int _ _) (Z0b hpp' Z2u))))) Z5y)
  rw [ho, hi] at hone' hpE
  have g1 := run_gV (i := v.id) (s := v.label) hpp hpE rfl hp1 (last := 281474976710656) (n := e.id)
  have g2 := run_gV (i := v.id) (s := v.label) hpp hpE rfl hp1 (last := 281474976710656) (n := v.id)
  rw [if_pos rfl] at g2
  rw [ho, hi]
  rcases idB_cases (n := e.id) with ⟨h1', h2'⟩ | ⟨h1', h3', h2'⟩ | ⟨h1', h3', h2'⟩
  · have d3 := Zs (p := e.id < 1) h1'
    have hk : Za0 v e = false := by simp [Za0, h2']
    rw [hk]
    refine Zd rfl rfl ?_
    repeat' first | ((with_reducible show V _ _ _ _ _ _); first | refine Z40 rfl (Zi ?_) | refine Z1 rfl ?_ | refine Za rfl rfl ?_ | refine Zb rfl rfl ?_ | refine Zc rfl rfl ?_ | refine V_D rfl ?_) | ((with_reducible show VO _ _ _ _ _ _ _); first | refine Ze rfl rfl hone rfl rfl rfl ?_ | refine Ze rfl rfl hone' rfl rfl rfl ?_ | refine Z0 rfl ?_ | refine Z8 rfl ?_ | refine Z2 ?_ | refine Zf rfl ?_) | ((with_reducible show VD _ _ _ _ _ _ _); first | refine Z6q (d := some 47) d1 rfl ?_ | refine Z6q (d := some 53) d2 rfl ?_ | refine Z6q (d := some 97) d3 rfl ?_ | refine Z4a rfl rfl hnm ?_ | refine Z4a rfl rfl hpr ?_ | refine Z0h rfl ?_ | refine Z1k ?_ | refine Z9m rfl ?_ | refine D_gU' rfl ?_ | refine Zcy rfl rfl ?_)
    rfl
  · have d3 := Zh (p := e.id < 1) h1'
    have d4 := Zs (p := e.id > 281474976710656) h3'
    have hk : Za0 v e = false := by simp [Za0, h2']
    rw [hk]
    refine Zd rfl rfl ?_
    repeat' first | ((with_reducible show V _ _ _ _ _ _); first | refine Z40 rfl (Zi ?_) | refine Z1 rfl ?_ | refine Za rfl rfl ?_ | refine Zb rfl rfl ?_ | refine Zc rfl rfl ?_ | refine V_D rfl ?_) | ((with_reducible show VO _ _ _ _ _ _ _); first | refine Ze rfl rfl hone rfl rfl rfl ?_ | refine Ze rfl rfl hone' rfl rfl rfl ?_ | refine Z0 rfl ?_ | refine Z8 rfl ?_ | refine Z2 ?_ | refine Zf rfl ?_) | ((with_reducible show VD _ _ _ _ _ _ _); first | refine Z6q (d := some 47) d1 rfl ?_ | refine Z6q (d := some 53) d2 rfl ?_ | refine Z6q (d := some 97) d3 rfl ?_ | refine Z6q (d := some 103) d4 rfl ?_ | refine Z4a rfl rfl hnm ?_ | refine Z4a rfl rfl hpr ?_ | refine Z0h rfl ?_ | refine Z1k ?_ | refine Z9m rfl ?_ | refine D_gU' rfl ?_ | refine Zcy rfl rfl ?_)
    rfl
  · have d3 := Zh (p := e.id < 1) h1'
    have d4 := Zh (p := e.id > 281474976710656) h3'
    cases hn' : Z2o e.label with
    | false =>
      have hk : Za0 v e = false := by simp [Za0, hn']
      rw [hk]
      rw [hn'] at hnm'
      refine Zd rfl rfl ?_
      repeat' first | ((with_reducible show V _ _ _ _ _ _); first | refine Z40 rfl (Zi ?_) | refine Z1 rfl ?_ | refine Za rfl rfl ?_ | refine Zb rfl rfl ?_ | refine Zc rfl rfl ?_ | refine V_D rfl ?_) | ((with_reducible show VO _ _ _ _ _ _ _); first | refine Ze rfl rfl hone rfl rfl rfl ?_ | refine Ze rfl rfl hone' rfl rfl rfl ?_ | refine Z0 rfl ?_ | refine Z8 rfl ?_ | refine Z2 ?_ | refine Zf rfl ?_) | ((with_reducible show VD _ _ _ _ _ _ _); first | refine Z6q (d := some 47) d1 rfl ?_ | refine Z6q (d := some 53) d2 rfl ?_ | refine Z6q (d := some 97) d3 rfl ?_ | refine Z6q (d := some 103) d4 rfl ?_ | refine Z4a rfl rfl hnm' ?_ | refine Z4a rfl rfl hnm ?_ | refine Z4a rfl rfl hpr ?_ | refine Z0h rfl ?_ | refine Z1k ?_ | refine Z9m rfl ?_ | refine Zcy rfl rfl ?_)
      rfl
    | true =>
      rw [hn'] at hnm'
      cases hq' : Z27 e.props with
      | false =>
        have hk : Za0 v e = false := by simp [Za0, hq']
        rw [hk]
        rw [hq'] at hpr'
        refine Zd rfl rfl ?_
        repeat' first | ((with_reducible show V _ _ _ _ _ _); first | refine Z40 rfl (Zi ?_) | refine Z1 rfl ?_ | refine Za rfl rfl ?_ | refine Zb rfl rfl ?_ | refine Zc rfl rfl ?_ | refine V_D rfl ?_) | ((with_reducible show VO _ _ _ _ _ _ _); first | refine Ze rfl rfl hone rfl rfl rfl ?_ | refine Ze rfl rfl hone' rfl rfl rfl ?_ | refine Z0 rfl ?_ | refine Z8 rfl ?_ | refine Z2 ?_ | refine Zf rfl ?_) | ((with_reducible show VD _ _ _ _ _ _ _); first | refine Z6q (d := some 47) d1 rfl ?_ | refine Z6q (d := some 53) d2 rfl ?_ | refine Z6q (d := some 97) d3 rfl ?_ | refine Z6q (d := some 103) d4 rfl ?_ | refine Z4a rfl rfl hnm' ?_ | refine Z4a rfl rfl hpr' ?_ | refine Z4a rfl rfl hnm ?_ | refine Z4a rfl rfl hpr ?_ | refine Z0h rfl ?_ | refine Z1k ?_ | refine Z9m rfl ?_ | refine Zcy rfl rfl ?_)
        rfl
      | true =>
        rw [hq'] at hpr'
        by_cases hve : v.id = e.id
        · have hk : Za0 v e = false := by simp [Za0, hve]
          rw [hk]
          rw [if_pos hve] at g1
          refine Zd rfl rfl ?_
          repeat' first | ((with_reducible show V _ _ _ _ _ _); first | refine Z40 rfl (Zi ?_) | refine Z1 rfl ?_ | refine Za rfl rfl ?_ | refine Zb rfl rfl ?_ | refine Zc rfl rfl ?_ | refine V_D rfl ?_) | ((with_reducible show VO _ _ _ _ _ _ _); first | refine Ze rfl rfl hone rfl rfl rfl ?_ | refine Ze rfl rfl hone' rfl rfl rfl ?_ | refine Z7 rfl rfl g1 ?_ | refine Z7 rfl rfl g2 ?_ | refine Z0 rfl ?_ | refine Z8 rfl ?_ | refine Z2 ?_ | refine Zf rfl ?_ | refine Z0s rfl rfl ?_) | ((with_reducible show VD _ _ _ _ _ _ _); first | refine Z6q (d := some 47) d1 rfl ?_ | refine Z6q (d := some 53) d2 rfl ?_ | refine Z6q (d := some 97) d3 rfl ?_ | refine Z6q (d := some 103) d4 rfl ?_ | refine Z4a rfl rfl hnm' ?_ | refine Z4a rfl rfl hpr' ?_ | refine Z4a rfl rfl hnm ?_ | refine Z4a rfl rfl hpr ?_ | refine Z0h rfl ?_ | refine Z1k ?_ | refine Z9m rfl ?_ | refine Zcy rfl rfl ?_)
          rfl
        · have hk : Za0 v e = true := by simp [Za0, h2', hn', hq', hve]
          rw [hk]
          rw [if_neg hve] at g1
          refine Zd rfl rfl ?_
          repeat' first | ((with_reducible show V _ _ _ _ _ _); first | refine Z40 rfl (Zi ?_) | refine Z1 rfl ?_ | refine Za rfl rfl ?_ | refine Zb rfl rfl ?_ | refine Zc rfl rfl ?_ | refine V_D rfl ?_) | ((with_reducible show VO _ _ _ _ _ _ _); first | refine Ze rfl rfl hone rfl rfl rfl ?_ | refine Ze rfl rfl hone' rfl rfl rfl ?_ | refine Z7 rfl rfl g1 ?_ | refine Z7 rfl rfl g2 ?_ | refine Z0 rfl ?_ | refine Z8 rfl ?_ | refine Z2 ?_ | refine Zf rfl ?_) | ((with_reducible show VD _ _ _ _ _ _ _); first | refine Z6q (d := some 47) d1 rfl ?_ | refine Z6q (d := some 53) d2 rfl ?_ | refine Z6q (d := some 97) d3 rfl ?_ | refine Z6q (d := some 103) d4 rfl ?_ | refine Z4a rfl rfl hnm' ?_ | refine Z4a rfl rfl hpr' ?_ | refine Z4a rfl rfl hnm ?_ | refine Z4a rfl rfl hpr ?_ | refine Z0h rfl ?_ | refine Z1k ?_ | refine Z9m rfl ?_ | refine Zcy rfl rfl ?_)
          rfl
theorem Zeq {i : Int} {s : List UInt8} {p : PV} (hp1 : PV.one p = true) : ∀ (look : Nat → Option Tok) (e : EC) {k : Nat}, e.get k = some (.agg [.int .i64 i, .str s, p]) → Zj look e (.buildSl 3 [[.int .i64 0, .str [], .nilSl]] [(0, .t k)]) = some (.sl [[.int .i64 i, .str s, p]] true) := fun look e k h => by
  have hp2 : p.isJunk = false := by cases p <;> first | rfl | cases hp1
  simp only [Zj, Z35, Zbd, Opd.get, h]
  simp [Z1a, Z0x, PV.cells, PV.isJunk, hp1, hp2]
theorem build_sl5 {i o n : Int} {s : List UInt8} {p : PV} (hp1 : PV.one p = true) : ∀ (look : Nat → Option Tok) (e : EC) {k : Nat}, e.get k = some (.agg [.int .i64 i, .str s, .int .i64 o, .int .i64 n, p]) → Zj look e (.buildSl 5 [[.int .i64 0, .str [], .int .i64 0, .int .i64 0, .nilSl]] [(0, .t k)]) = some (.sl [[.int .i64 i, .str s, .int .i64 o, .int .i64 n, p]] true) := fun look e k h => by
  have hp2 : p.isJunk = false := by cases p <;> first | rfl | cases hp1
  simp only [Zj, Z35, Zbd, Opd.get, h]
  simp [Z1a, Z0x, PV.cells, PV.isJunk, hp1, hp2]
set_option maxHeartbeats 4000000 in
theorem run_stands {v : Vtx} {cs : List PV} (hv : VtC v cs) {e : Lnk} {ds : List PV} (he : LkC e ds) : T.R (.call Zb3 [.agg cs, .agg ds] (.bool (Z5s v e))) := by
  have c1 := run_gCheck1 hv
  have c2 := fun h1 h2 h3 => run_gCheck2 hv h1 he h2 h3
  obtain ⟨hid, hlab, p, rfl, hp⟩ := hv
  obtain ⟨hid', hlab', _, _, p', rfl, hp'⟩ := he
  have hpp := hp.pl (fun a _ cs h => h.pl)
  have hp1 := Zif hp
  have hpp' := hp'.pl (fun a _ cs h => h.pl)
  have hp1' := Zif hp'
  cases hok : Z99 v with
  | false =>
    have hk : Z5s v e = false := by simp [Z5s, hok]
    rw [hk]
    rw [hok] at c1
    refine Zd rfl rfl ?_
    repeat' first | ((with_reducible show V _ _ _ _ _ _); first | refine Z1 rfl ?_ | refine Za rfl rfl ?_ | refine Zc rfl rfl ?_) | ((with_reducible show VO _ _ _ _ _ _ _); first | refine Z7 rfl rfl c1 ?_ | refine Z0 (Zeq hp1 _ _ rfl) ?_ | refine Z0 rfl ?_ | refine Z8 rfl ?_ | refine Z2 ?_)
    rfl
  | true =>
    rw [hok] at c1
    by_cases ho : e.out = v.id
    · have d1 := Zew (p := e.out = v.id) ho
      by_cases hi : e.into = v.id
      · have d2 := Zew (p := e.into = v.id) hi
        have hk : Z5s v e = Za0 v e := by simp [Z5s, hok, ho, hi]
        rw [hk]
        have c3 := c2 hok ho hi
        cases hl : Za0 v e with
        | false =>
          rw [hl] at c3
          refine Zd rfl rfl ?_
          repeat' first | ((with_reducible show V _ _ _ _ _ _); first | refine Z1 rfl ?_ | refine Zb rfl rfl ?_ | refine Zc rfl rfl ?_) | ((with_reducible show VO _ _ _ _ _ _ _); first | refine Z7 rfl rfl c1 ?_ | refine Z7 rfl rfl c3 ?_ | refine Z4 d1 rfl ?_ | refine Z4 d2 rfl ?_ | refine Z0 (Zeq hp1 _ _ rfl) ?_ | refine Z0 (build_sl5 hp1' _ _ rfl) ?_ | refine Z0 rfl ?_ | refine Z8 rfl ?_ | refine Z2 ?_ | refine Zf rfl ?_)
          rfl
        | true =>
          rw [hl] at c3
          refine Zd rfl rfl ?_
          repeat' first | ((with_reducible show V _ _ _ _ _ _); first | refine Z1 rfl ?_ | refine Zb rfl rfl ?_ | refine Zc rfl rfl ?_) | ((with_reducible show VO _ _ _ _ _ _ _); first | refine Z7 rfl rfl c1 ?_ | refine Z7 rfl rfl c3 ?_ | refine Z4 d1 rfl ?_ | refine Z4 d2 rfl ?_ | refine Z0 (Zeq hp1 _ _ rfl) ?_ | refine Z0 (build_sl5 hp1' _ _ rfl) ?_ | refine Z0 rfl ?_ | refine Z8 rfl ?_ | refine Z2 ?_ | refine Zf rfl ?_)
          rfl
      · have d2 := Zal (p := e.into = v.id) hi
        have hk : Z5s v e = false := by simp [Z5s, hi]
        rw [hk]
        refine Zd rfl rfl ?_
        repeat' first | ((with_reducible show V _ _ _ _ _ _); first | refine Z1 rfl ?_ | refine Za rfl rfl ?_ | refine Zb rfl rfl ?_ | refine Zc rfl rfl ?_) | ((with_reducible show VO _ _ _ _ _ _ _); first | refine Z7 rfl rfl c1 ?_ | refine Z4 d1 rfl ?_ | refine Z4 d2 rfl ?_ | refine Z0 (Zeq hp1 _ _ rfl) ?_ | refine Z0 rfl ?_ | refine Z8 rfl ?_ | refine Z2 ?_ | refine Zf rfl ?_)
        rfl
    · have d1 := Zal (p := e.out = v.id) ho
      have hk : Z5s v e = false := by simp [Z5s, ho]
      rw [hk]
      refine Zd rfl rfl ?_
      repeat' first | ((with_reducible show V _ _ _ _ _ _); first | refine Z1 rfl ?_ | refine Za rfl rfl ?_ | refine Zb rfl rfl ?_ | refine Zc rfl rfl ?_) | ((with_reducible show VO _ _ _ _ _ _ _); first | refine Z7 rfl rfl c1 ?_ | refine Z4 d1 rfl ?_ | refine Z0 (Zeq hp1 _ _ rfl) ?_ | refine Z0 rfl ?_ | refine Z8 rfl ?_ | refine Z2 ?_ | refine Z0s rfl rfl ?_)
      rfl
theorem O_alloc2 {T : Tb} {Q : Z41} {k : List Fr} {ρ : EC} {st S' : St} {l : List POp} {kill : List Nat} {d : Option Nat} {x : Opd} {p : PV} {cs : List PV} (hS : st.new (.var cs) = S') (h : VO T Q l kill k (ρ.sets d (.ptr st.next 0)) S') (hx : x.get ρ = some p := by rfl) (hj : p.isJunk = false := by rfl) (hc : p.cells = cs := by rfl) : VO T Q (⟨d, none, .box x⟩ :: l) kill k ρ st := by
  subst hS hc
  exact Z8 (by simp only [Z5r, hx, hj, if_true]) h
theorem Zic {n : Int} (h : idB n = true) : Zg 8 (Z4u n) = true := by
  simp only [idB, Bool.and_eq_true, decide_eq_true_eq] at h
  simp [Zg, Z4u, h.1, h.2]
theorem Zid {n : Int} (h : idB n = true) : Zg 8 (Z2z n) = true := by
  simp only [idB, Bool.and_eq_true, decide_eq_true_eq] at h
  simp [Zg, Z2z, h.1, h.2]
theorem kB_of {v : Val} (hm : Zg 8 v = true) (h4 : v.kind ≠ 4) (h5 : v.kind ≠ 5) : kB v = Z1m v := by
  have hk : Zel [v] = .ok (Z1m v ++ []) := by
    simp only [Zel, hm, if_true, h4, h5, or_self, if_false]
    rfl
  simp [kB, keyE, keyB, hk]
theorem kB_vtx {n : Int} (h : idB n = true) : kB (Z4u n) = Z1m (Z4u n) := kB_of (Zic h) (by simp [Z4u, Val.kind]) (by simp [Z4u, Val.kind])
theorem kB_edg {n : Int} (h : idB n = true) : kB (Z2z n) = Z1m (Z2z n) := kB_of (Zid h) (by simp [Z2z, Val.kind]) (by simp [Z2z, Val.kind])
theorem D_loadV {T : Tb} {Q : Z41} {k : List Fr} {ρ : EC} {st : St} {l : List POp} {kill : List Nat} {d : Option Nat} {a : Opd} {t off : Nat} {cs : List PV} {c : PV} (ha : a.get ρ = some (.ptr t off)) (hg : st.get t = some (.var cs)) (hc : cs[off]? = some c) (h : VD T Q l kill k (ρ.sets d c) st) : VD T Q (⟨d, none, .load 1 false a⟩ :: l) kill k ρ st :=
  Z0h (by
    have hlt := (List.getElem?_eq_some_iff.1 hc).1
    simp only [Zj, Z5e, ha, loadAt, behind, hg, Option.bind_some, slice?]
    rw [if_pos (by omega)]
    simpa using hc) h
theorem D_loadW {T : Tb} {Q : Z41} {k : List Fr} {ρ : EC} {st : St} {l : List POp} {kill : List Nat} {d : Option Nat} {a : Opd} {t off n : Nat} {cs ds : List PV} (ha : a.get ρ = some (.ptr t off)) (hg : st.get t = some (.var cs)) (hl : off + n ≤ cs.length) (hd : (cs.drop off).take n = ds) (h : VD T Q l kill k (ρ.sets d (.agg ds)) st) : VD T Q (⟨d, none, .load n true a⟩ :: l) kill k ρ st :=
  Z0h (by
    simp only [Zj, Z5e, ha, loadAt, behind, hg, Option.bind_some, slice?]
    rw [if_pos hl]
    simp [hd]) h
theorem lnkK_ok {x : Lnk} (h1 : idB x.id = true) (h2 : idB x.out = true) (h3 : idB x.into = true) : lnkK x = (Z25 (Z2z x.id), Zt x.out ++ Zt x.into ++ Z1l x.label ++ Z0y x.props) :: (Z1x 3 x.out x.label ++ kB (Z2z x.id), Zt x.into) :: (Z1x 4 x.into x.label ++ kB (Z2z x.id), Zt x.out) :: Zku (Z2z x.id) x.label x.props := by simp [lnkK, h1, h2, h3]
def BdK (label : List UInt8) (l : List Prp) : Prop := (∀ y ∈ l, (Z8t y.val).length ≤ 100000000000000) ∧ (Z1l label).length + (Z0y l).length ≤ 10000000000 ∧ label.length ≤ 1000000000000 ∧ l.length ≤ 100000000000
theorem edge_of {x : Lnk} {cs : List PV} (hx : LkC x cs) (hb : BdK x.label x.props) : ∃ q, T.R (.call Zi7 [.agg cs] q) ∧ LR EnC q (lnkK x) := run_Edge hx hb.1 hb.2.1 hb.2.2.1 hb.2.2.2
theorem numK_nat (n : Nat) : Zt (n : Int) = Z8b 9 n := by
  unfold Zt
  congr 1
  split <;> omega
theorem Ze5 {n : Int} (h0 : 0 ≤ n) {lo hi : Int} (hl : lo ≤ n) (hh : n ≤ hi) (hb : hi ≤ 281474976710656) (x : List UInt8) : Zju (Zt n ++ x, false) lo hi = ((x, false), n) := by
  obtain ⟨m, rfl⟩ := Int.eq_ofNat_of_zero_le h0
  rw [numK_nat]
  have hd := Zeo (u := m) (by omega) x
  simp only [Zju, hd]
  rw [if_pos ⟨trivial, hh, hl⟩]
  simp
theorem Zha {s : List UInt8} (h : Z2o s = true) : 1 ≤ s.length ∧ s.length ≤ 24 := by
  cases s with
  | nil => cases h
  | cons c r =>
    simp only [Z2o, Bool.and_eq_true, decide_eq_true_eq] at h
    exact ⟨by simp, h.1.1⟩
theorem toStr_stepA {p : PV} {s : List UInt8} (hp : BV p s) : ∀ (look : Nat → Option Tok) (e : EC) {i : Nat}, e.get i = some p → Zj look e (.toStr (.t i)) = some (.str s) := fun look e i hi => by
  simp only [Zj, Z5e, Opd.get, hi, hp.elems look, Option.bind_some, Z5k, Option.map_some]
theorem text1 {S : St} {t : Nat} {s x : List UInt8} (hr : RdR S t (Z1l s ++ x, false)) (hn : Z2o s = true) : ∃ S', Raw1 T S Z77 [.ptr t 0] (.str s) S' ∧ RdR S' t (x, false) ∧ Mut S S' t := by
  obtain ⟨l1, l2⟩ := Zha hn
  obtain ⟨st, hst⟩ : ∃ st : St, st = ⟨S.next, S.next, S.toks⟩ := ⟨_, rfl⟩
  have hr' : RdR st t (Zt s.length ++ (s ++ x), false) := by
    rw [hst]
    have e : Z1l s ++ x = Zt s.length ++ (s ++ x) := by simp [Z1l]
    rw [← e]
    exact hr.re _
  obtain ⟨A, a1, a2, a3⟩ := num1 hr' (lo := 0) (hi := 24) (by omega) (by omega)
  rw [Ze5 (by omega) (by omega) (by omega) (by omega)] at a1 a2
  obtain ⟨_, hbl, p, hg, hp⟩ := id a2
  simp only at hbl hg hp
  obtain ⟨B, b1, b2, b3⟩ := skip1 a2 (n := s.length) (by omega) true
  have hsk : Z1i (s ++ x, false) s.length true = ((x, false), true) := by
    unfold Z1i
    rw [if_neg (by simp)]
    simp
  rw [hsk] at b1 b2
  obtain ⟨_, hbl2, p2, hg2, hp2⟩ := id b2
  simp only at hbl2 hg2 hp2
  obtain ⟨q, s1, s2⟩ := hp.hi B.get (k := .i64) (m := (s.length : Int)) (by omega) (by simp; omega)
  rw [Int.toNat_natCast, List.take_left] at s2
  have hts := toStr_stepA s2
  have hnm := run_Name (s := s) (by omega)
  rw [hn] at hnm
  have hst2 := Z88 (c := .bool false) hg2 rfl
  have hend : (B.put t (.var [p2, .bool false])).base = S.next ∧ RdR (B.put t (.var [p2, .bool false])) t (x, false) ∧ Mut S ⟨S.base, (B.put t (.var [p2, .bool false])).next, (B.put t (.var [p2, .bool false])).toks⟩ t := by
    have hb : B.base = S.next := by rw [b3.1, a3.1, hst]
    refine ⟨hb, ⟨b2.1, hbl2, p2, St.get_put, hp2⟩, rfl, ?_, fun u hu hn => ?_⟩
    · show S.next ≤ B.next
      have h1 := a3.2.1
      have h2 := b3.2.1
      rw [hst] at h1
      have h1 : S.next ≤ A.next := h1
      omega
    · show (B.put t (.var [p2, .bool false])).get u = S.get u
      have h1 := a3.2.1
      rw [hst] at h1
      have h1 : S.next ≤ A.next := h1
      rw [St.get_put_old (Ne.symm hn), b3.2.2 u (by omega) hn, a3.2.2 u (by rw [hst]; exact hu) hn, hst]
      rfl
  have key : ∃ v st', T.R (.raw Z77 [.ptr t 0] st v st') ∧ v = .str s ∧ st'.base = S.next ∧ RdR st' t (x, false) ∧ Mut S ⟨S.base, st'.next, st'.toks⟩ t := by
    refine Z1f rfl rfl ?_
    repeat' first | ((with_reducible show V _ _ _ _ _ _); first | refine Z08 rfl rfl ⟨rfl, hend⟩ | refine Z1 rfl ?_ | refine Zb rfl rfl ?_) | ((with_reducible show VO _ _ _ _ _ _ _); first | refine Zr rfl hg rfl ?_ | refine Z0i a1 rfl rfl ?_ | refine Z0i b1 rfl rfl ?_ | refine Z16 q rfl rfl rfl rfl s1 ?_ | refine Z0 (hts _ _ rfl) ?_ | refine Z7 rfl rfl hnm ?_ | refine Ze rfl rfl rfl rfl rfl hst2 ?_ | refine Z0 rfl ?_ | refine Z2 ?_)
  obtain ⟨v, st', h1, rfl, h2, h3, h4⟩ := key
  subst hst
  exact ⟨_, Z9t h1 h2, h3, h4⟩
def PA (st : St) (v : PV) (l : List Prp) : Prop := ∃ es, AccT 5 st v es ∧ es.length = l.length ∧ ∀ (j : Nat) (x : Prp) (cs : List PV), l[j]? = some x → es[j]? = some cs → PpC x cs
theorem PA.keep {st st' : St} {v : PV} {l : List Prp} (h : PA st v l) (hn : st.next ≤ st'.next) (hk : ∀ u g es, u < st.next → st.get u = some (.row g 5 es true) → st'.get u = st.get u) : PA st' v l := by
  obtain ⟨es, h1, h2⟩ := h
  refine ⟨es, ?_, h2⟩
  rcases h1 with h1 | ⟨t, g, rfl, h3, h4⟩
  · exact .inl h1
  · exact .inr ⟨t, g, rfl, (hk t g _ h4 h3).trans h3, by omega⟩
theorem PA.view {st : St} {v : PV} {l : List Prp} (h : PA st v l) (hl : l.length ≤ 1000) : ∃ q, View true st.get v q ∧ LR PpC q l := by
  obtain ⟨es, h1, h2, h3⟩ := h
  rcases h1 with ⟨rfl, rfl⟩ | ⟨t, g, rfl, h4, h5⟩
  · have : l = [] := List.length_eq_zero_iff.1 h2.symm
    exact ⟨.nilSl, .nilSl, .inl ⟨rfl, this⟩⟩
  · refine ⟨.sl es false, view_rows h4 rfl (fun j cs ds h6 h7 => ?_), .inr ⟨es, false, rfl, by omega, h2, h3⟩⟩
    rw [h6] at h7
    injection h7 with h7
    subst h7
    have hlt : j < l.length := by rw [← h2]; exact (List.getElem?_eq_some_iff.1 h6).1
    have hp := h3 j l[j] cs (List.getElem?_eq_getElem hlt) h6
    refine ⟨rfl, fun i c d h8 h9 => ?_⟩
    rw [h8] at h9
    injection h9 with h9
    subst h9
    exact (hp.pl c (List.mem_of_getElem? h8)).view
theorem PA.len {st : St} {v : PV} {l : List Prp} (h : PA st v l) : lenOf v = some l.length ∧ Zcq v = false := by
  obtain ⟨es, h1, h2, _⟩ := h
  rcases h1 with ⟨rfl, rfl⟩ | ⟨t, g, rfl, h4, h5⟩
  · exact ⟨by rw [← h2]; rfl, rfl⟩
  · exact ⟨by simp [lenOf, h2], rfl⟩
theorem PA.app {st : St} {v : PV} {l : List Prp} (h : PA st v l) {x : Prp} {cs : List PV} (hx : PpC x cs) (hl : l.length ≤ 1000) : ∃ v' st', Z0d st 5 72 v [cs] = some (v', st') ∧ PA st' v' (l ++ [x]) ∧ Grow st v st' v' := by
  obtain ⟨es, h1, h2, h3⟩ := h
  obtain ⟨v', st', k1, k2, k3⟩ := h1.grow (bytes := 72) (src := [cs]) (by simp) (by rw [h2]; simp only [List.length_singleton, Z06]; omega)
  refine ⟨v', st', k1, ⟨es ++ [cs], k2, by simp [h2], fun j y ds hj hd => ?_⟩, k3⟩
  rcases Nat.lt_or_ge j l.length with hlt | hge
  · rw [List.getElem?_append_left hlt] at hj
    rw [List.getElem?_append_left (by omega)] at hd
    exact h3 j y ds hj hd
  · rw [List.getElem?_append_right hge] at hj
    rw [List.getElem?_append_right (by omega), h2] at hd
    cases hz : j - l.length with
    | zero => rw [hz] at hj hd; simp at hj hd; subst hj hd; exact hx
    | succ n => rw [hz] at hj; simp at hj
theorem Zkt : ∀ a b : List UInt8, bytesLess a b = false → a ≠ b → bytesLess b a = true
  | _, [], h, hn => by
    rename_i a
    cases a with
    | nil => exact absurd rfl hn
    | cons c r => rfl
  | [], _ :: _, h, hn => by simp [bytesLess] at h
  | a :: x, b :: y, h, hn => by
    simp only [bytesLess, Bool.or_eq_false_iff, Bool.and_eq_false_imp, decide_eq_false_iff_not, beq_iff_eq] at h
    obtain ⟨h1, h2⟩ := h
    simp only [bytesLess, Bool.or_eq_true, decide_eq_true_eq, Bool.and_eq_true, beq_iff_eq]
    by_cases hab : a = b
    · subst hab
      exact .inr ⟨rfl, Zkt x y (h2 rfl) (fun e => hn (by rw [e]))⟩
    · left
      have h3 : ¬ a.toNat < b.toNat := h1
      have h4 : a.toNat ≠ b.toNat := fun e => hab (UInt8.toNat_inj.1 e)
      show b.toNat < a.toNat
      omega
theorem okP_split : ∀ (pre : List Prp) (o : Option Prp) (x : Prp) (rest : List Prp), okP o (pre ++ x :: rest) = true → Z2o x.name = true ∧ chk x.val = 0 ∧ (∀ y, (pre.getLast? <|> o) = some y → bytesLess y.name x.name = true)
  | [], o, x, rest, h => by
    simp only [List.nil_append, okP, Bool.and_eq_true, Bool.not_eq_true', decide_eq_true_eq] at h
    refine ⟨h.1.1.1, h.1.2, fun y hy => ?_⟩
    have ho : o = some y := by simpa using hy
    subst ho
    have hu := h.1.1.2
    simp only [notUp, Bool.or_eq_false_iff, decide_eq_false_iff_not] at hu
    exact Zkt _ _ hu.1 hu.2
  | z :: pre, o, x, rest, h => by
    simp only [List.cons_append, okP, Bool.and_eq_true] at h
    obtain ⟨h1, h2, h3⟩ := okP_split pre (some z) x rest h.2
    refine ⟨h1, h2, fun y hy => h3 y ?_⟩
    cases pre with
    | nil => simpa using hy
    | cons w pre =>
      rw [List.getLast?_cons_cons] at hy
      cases hg : (w :: pre).getLast? with
      | none => simp at hg
      | some u => rw [hg] at hy; simpa using hy
theorem chk_may {v : Val} (h : chk v = 0) : Zg 8 v = true := by
  by_cases hm : Zg 8 v = true
  · exact hm
  · simp [chk, hm] at h
theorem read_was {v : Val} {cs : List PV} (hv : VC v cs) (hm : Zg 8 v = true) {p : PV} {x : List UInt8} (hp : BV p (Z8t v ++ x)) (hl : (Z8t v ++ x).length ≤ 1073741824) : ∃ ds, VC v ds ∧ T.R (.call Zfv [p] (.tuple [.agg ds, .int .i64 ((Z8t v).length : Nat), .int .i64 0])) := by
  have e : Z8t v = Z6s v := by simp [Z8t, hm]
  have hr := run_Read hp hl
  rw [e] at hr ⊢
  rw [read_put hv hm] at hr
  rcases hr with ⟨e, h, _⟩ | ⟨v', n, ds, h, h1, h2⟩
  · cases h
  · injection h with h3 h4
    subst h3 h4
    exact ⟨ds, h1, h2⟩
theorem storeAt_fld {st : St} {t : Nat} {s : PV} {cs : List PV} (h4 : cs.length = 4) (hg : st.get t = some (.var [s, .int .i64 0, .int .i64 0, .str [], .nilSl])) : storeAt st (.ptr t 1) (.agg cs) = some (st.put t (.var (s :: cs))) := by
  match cs, h4 with
  | [a, b, c, d], _ =>
    simp only [storeAt, hg, PV.cells]
    rfl
theorem build5 {s : List UInt8} {v : Val} {cs : List PV} (hv : VC v cs) : ∀ (look : Nat → Option Tok) (e : EC) {i : Nat}, e.get i = some (.agg (.str s :: cs)) → Zj look e (.buildSl 5 [[.str [], .int .i64 0, .int .i64 0, .str [], .nilSl]] [(0, .t i)]) = some (.sl [.str s :: cs] true) := fun look e i hi => by
  obtain ⟨w, q, rfl, hq⟩ := hv.form2
  have h1 := hv.one
  simp only [List.all_cons, List.all_nil, Bool.and_true, Bool.and_eq_true] at h1
  have hq1 := h1.2.2.2
  have hq2 : q.isJunk = false := by cases q <;> first | rfl | cases hq1
  simp only [Zj, Z35, Zbd, Opd.get, hi]
  simp [Z1a, Z0x, PV.cells, PV.isJunk, hq1, hq2, PV.one]
theorem idx_own {t g sz len j : Nat} {f lv : Bool} {es : List (List PV)} {kk : IntKind} {look : Nat → Option Tok} (hg : look t = some (.row g sz es lv)) (hj : j < len) : ∀ (e : EC) {i k : Nat}, e.get i = some (.osl t g 0 len f) → e.get k = some (.int kk (j : Nat)) → Zj look e (.indexS (.t i) (.t k) sz) = some (.rptr t g j 0) := fun e i k hi hk => by
  simp only [Zj, get2, Opd.get, hi, hk, Z6l, indexS?]
  rw [if_pos (by omega), hg]
  simp
theorem load_own {t g sz j : Nat} {lv : Bool} {es : List (List PV)} {c : PV} {r : List PV} {look : Nat → Option Tok} (hg : look t = some (.row g sz es lv)) (hj : es[j]? = some (c :: r)) : ∀ (e : EC) {i : Nat}, e.get i = some (.rptr t g j 0) → Zj look e (.load 1 false (.t i)) = some c := fun e i hi => by
  simp only [Zj, Z5e, Opd.get, hi, loadAt, behind, hg, if_true, hj, Option.map_some, Option.bind_some, slice?]
  rw [if_pos (by simp)]
  simp
theorem len_step {v : PV} {n : Nat} (h1 : lenOf v = some n) (h2 : Zcq v = false) : ∀ (look : Nat → Option Tok) (e : EC) {i : Nat}, e.get i = some v → Zj look e (.len false (.t i)) = some (.int .i64 n) := fun look e i hi => by
  simp only [Zj, Z5e, Opd.get, hi, h1, h2]
  rfl
theorem gd_T {r : Env} {n : Nat} {b : Bool} (h : Z9 n r = some (.bool b)) : gd (Z9 · r) (some (n, b)) = some true := by
  simp only [gd, h]
  cases b <;> rfl
theorem gd_F {r : Env} {n : Nat} {a b : Bool} (h : Z9 n r = some (.bool a)) (hb : a = !b) : gd (Z9 · r) (some (n, b)) = some false := by
  subst hb
  simp only [gd, h]
  cases b <;> rfl
section
variable {T : Tb} {Q : Z41} {C : Chn} {j : Nat} {k : List Fr} {l : List POp} {kill : List Nat} {ρ : EC} {b : Bool} {i : Nat} {d : Option Nat} {op : PI} {n : Nat} {w : Bool}
theorem C_gT (hg : ρ.get n = some (.bool w)) (hx : C.idx j = none) (hal : C.al = none) (h : Go.AM.VC T Q C j (⟨d, none, op⟩ :: l) kill k ρ b i) : Go.AM.VC T Q C j (⟨d, some (n, w), op⟩ :: l) kill k ρ b i := fun r hr => by
  obtain ⟨ρ1, b1, i1, h1, h2⟩ := h r hr
  have g := gd_T (hr _ _ hg)
  have hw : ∀ o, C.away j o = true := fun o => by simp only [Chn.away, hal]
  refine ⟨ρ1, b1, i1, ?_, h2⟩
  cases h1
  case dlcQuiet => exact .dlcQuiet _ _ _ _ _ _ _ _ _ _ _ hx (hw _) g (by assumption) (by assumption)
  case dlcCall => exact .dlcCall _ _ _ _ _ _ _ _ _ _ _ _ _ _ _ _ hx (hw _) g (by assumption) (by assumption) (by assumption) (by assumption) (by assumption)
  case dlcSkip => exfalso; simp_all [gd]
  all_goals (exfalso; simp_all; done)
theorem C_gF {a : Bool} (hg : ρ.get n = some (.bool a)) (hb : a = !w) (hx : C.idx j = none) (hal : C.al = none) (h : Go.AM.VC T Q C (j + 1) l kill k (ρ.sets d (.tuple [])) b i) : Go.AM.VC T Q C j (⟨d, some (n, w), op⟩ :: l) kill k ρ b i := fun r hr => by
  obtain ⟨ρ1, b1, i1, h1, h2⟩ := h _ (hr.sets d _)
  exact ⟨ρ1, b1, i1, .dlcSkip _ _ _ _ _ _ _ _ _ _ hx (by simp only [Chn.away, hal]) (gd_F (hr _ _ hg) hb) h1, h2⟩
end
theorem C_is {T : Tb} {Q : Z41} {C : Chn} {j : Nat} {k : List Fr} {l : List POp} {kill : List Nat} {ρ : EC} {b : Bool} {i : Nat} {d : Option Nat} {op : PI} {p p' : PV} (he : p = p') (hx : C.idx j = none) (hw : C.away j ⟨d, none, op⟩ = true) (hq : ∀ look, Zj look ρ op = some p) (h : Go.AM.VC T Q C (j + 1) l kill k (ρ.sets d p') b i) : Go.AM.VC T Q C j (⟨d, none, op⟩ :: l) kill k ρ b i := by
  subst he
  exact Z5f hx hw hq h
theorem C_raw1 {T : Tb} {Q : Z41} {C : Chn} {j : Nat} {k : List Fr} {l : List POp} {kill : List Nat} {ρ : EC} {b : Bool} {i : Nat} {A B : St} {d : Option Nat} {f : Opd} {xs : List Opd} {g : Nat} {caps vals : List PV} {r : PV} (hx : C.idx j = some i) (hw : C.away j ⟨d, none, .call f xs⟩ = true) (hl : C.link i ⟨d, none, .call f xs⟩ = true) (hd : d = C.d i) (hs : C.stores i = false) (hA : C.S i = A) (hf : f.get ρ = some (.func g caps)) (hxs : Zgy ρ xs = some vals) (hc : Raw1 T A g (vals ++ caps) r B) (hB : C.S (i + 1) = B) (h : Go.AM.VC T Q C (j + 1) l kill k (ρ.sets d r) b (i + 1)) : Go.AM.VC T Q C j (⟨d, none, .call f xs⟩ :: l) kill k ρ b i :=
  Z4f hx hw hl hd hs hA hf hxs hc.2 rfl (by rw [hB, ← hc.1]) h
end Go.Proofs.YtgdjnlopdpjnaaaGreatDoor

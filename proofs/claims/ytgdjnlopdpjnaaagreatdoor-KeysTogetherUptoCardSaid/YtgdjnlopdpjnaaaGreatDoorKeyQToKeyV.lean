/- ramblelaw11.begun. · ramblelaw11.stands: a graph of one vertex, and of one vertex and an edge. · ramblelaw11.stands: the walk of the graph's check. · ramblelaw11.stands. · rambleref01.Put and Zig, rambleref03.put and Put. · Keys: what stands together (plain). · ramblelaw11.KeysTogether: the walk. -/
import Derived.Test.YtgdjnlopdpjnaaaGreatDoorKeyNToKeyO
import Derived.Test.YtgdjnlopdpjnaaaGreatDoorKeyBToKeyG
set_option linter.unusedVariables false
set_option linter.unusedSimpArgs false
namespace Go.Proofs.YtgdjnlopdpjnaaaGreatDoor
open Go Go.AM Go.RowKit
theorem run_rVtx (n : Int) : T.R (.call n_rambleref02_Vertex [.int .i64 n] (.agg [.int .i64 6, .int .i64 n, .str [], .nilSl])) := by
  refine call_V rfl rfl ?_
  repeat' first | ((with_reducible show Go.AM.V _ _ _ _ _ _); first | refine V_O rfl ?_ | refine V_fA rfl rfl ?_) | ((with_reducible show Go.AM.VO _ _ _ _ _ _ _); first | refine O_step rfl ?_ | refine O_stepL rfl ?_ | refine O_nil' ?_)
  rfl
theorem run_rEdg (n : Int) : T.R (.call n_rambleref02_Edge [.int .i64 n] (.agg [.int .i64 7, .int .i64 n, .str [], .nilSl])) := by
  refine call_V rfl rfl ?_
  repeat' first | ((with_reducible show Go.AM.V _ _ _ _ _ _); first | refine V_O rfl ?_ | refine V_fA rfl rfl ?_) | ((with_reducible show Go.AM.VO _ _ _ _ _ _ _); first | refine O_step rfl ?_ | refine O_stepL rfl ?_ | refine O_nil' ?_)
  rfl
def knows : List UInt8 := [107, 110, 111, 119, 115]
def begE : Lnk := ⟨3, knows, 1, 2, []⟩
def begX : List UInt8 := besideK 3 1 knows ++ kB (vEdg 3)
theorem begE_len : (lnkK begE).length = 4 := by
  have h : idB begE.id = true ∧ idB begE.out = true ∧ idB begE.into = true := by decide
  simp only [lnkK, if_pos h, idxK, begE]
  rfl
theorem begE_one : (lnkK begE)[1]? = some (begX, numK 2) := by rfl
theorem begK : elemK (vVtx 1) = [1, 6, 128, 0, 0, 0, 0, 0, 0, 1] := by rfl
theorem begV : elemR begX (numK 2) = some (vEdg 3, 2) := by kernel_rfl
theorem run_kBegun : T.R (.call n_ramblelaw11_begun [] (.bool true)) := by
  obtain ⟨q, h1, h2⟩ := run_Edge (x := begE) (cs := [.int .i64 3, .str knows, .int .i64 1, .int .i64 2, .nilSl]) ⟨by simp [I64, begE], by decide, by simp [I64, begE], by simp [I64, begE], .nilSl, rfl, .inl ⟨rfl, rfl⟩⟩ (by simp [begE]) (by decide) (by decide) (by decide)
  obtain ⟨e1, e2, e3⟩ := h2.len
  rw [begE_len] at e1
  have hqp := h2.pl (fun a _ cs h => h.pl)
  obtain ⟨cs, hat, pk, pv, rfl, c1, c2⟩ := h2.at (fun _ _ h => h.len2) begE_one
  have hpk := c1.pl
  have hpv := c2.pl
  have ho1 := bv_one c1
  have ho2 := bv_one c2
  obtain ⟨qk, k1, k2⟩ := (keyOneR (vc_vtx (n := 1) (by simp [I64]))).call
  rw [begK] at k2
  have hkp := k2.pl
  have heq := run_Equal k2 (.sl [1, 6, 128, 0, 0, 0, 0, 0, 0, 1] true)
  rw [decide_eq_true rfl] at heq
  have hpl10 := (BV.sl [1, 6, 128, 0, 0, 0, 0, 0, 0, 1] true).pl
  have hel := run_Elem c1 c2 (by decide) (by decide)
  rw [begV] at hel
  have hs := run_Same (vc_edg (n := 3) (by simp [I64])) (vc_edg (n := 3) (by simp [I64]))
  have hs0 : decide (cmpV (vEdg 3) (vEdg 3) = 0) = true := by decide
  rw [hs0] at hs
  have r1 := run_rVtx 1
  have r2 := run_rEdg 3
  have hcl : [pk, pv].length = 2 := rfl
  refine call_V rfl rfl ?_
  repeat' first | ((with_reducible show Go.AM.V _ _ _ _ _ _); first | refine V_O rfl ?_ | refine V_cF rfl rfl ?_ | refine V_fA rfl rfl ?_ | refine V_D rfl ?_) | ((with_reducible show Go.AM.VO _ _ _ _ _ _ _); first | refine O_cA rfl rfl h1 ?_ | refine O_lenO rfl e1 e2 ?_ | refine O_cA rfl rfl r1 ?_ | refine O_cA rfl rfl k1 ?_ | refine O_cA rfl rfl heq ?_ | refine O_at rfl rfl hat ?_ | refine O_loadI rfl hcl ?_ | refine O_cA rfl rfl hel ?_ | refine O_step rfl ?_ | refine O_stepL rfl ?_ | refine O_nil' ?_ | refine O_gT' rfl ?_) | ((with_reducible show Go.AM.VD _ _ _ _ _ _ _); first | refine D_cA rfl rfl r2 ?_ | refine D_cA rfl rfl hs ?_ | refine D_step rfl ?_ | refine D_nil' ?_ | refine D_gT' rfl ?_)
  rfl
end Go.Proofs.YtgdjnlopdpjnaaaGreatDoor
set_option linter.unusedVariables false
set_option linter.unusedSimpArgs false
namespace Go.Proofs.YtgdjnlopdpjnaaaGreatDoor
open Go Go.AM Go.RowKit
theorem D_loadG {T : Tb} {Q : Post} {k : List Fr} {ρ : EC} {st : St} {l : List POp} {kill : List Nat} {d : Option Nat} {x : Opd} {n : Nat} {agg : Bool} {p v : PV} (hx : x.get ρ = some p) (hl : loadAt st.get n agg p = some v) (h : VD T Q l kill k (ρ.sets d v) st) : VD T Q (⟨d, none, .load n agg x⟩ :: l) kill k ρ st :=
  D_step (by simp only [stepQ, get1, hx]; exact hl) h
def notUp (pr : Option Prp) (x : Prp) : Bool := match pr with
  | none => false
  | some y => bytesLess x.name y.name || decide (x.name = y.name)
def okP : Option Prp → List Prp → Bool
  | _, [] => true
  | pr, x :: r => nameB x.name && !notUp pr x && decide (chk x.val = 0) && okP (some x) r
def propsOk (l : List Prp) : Bool := decide (l.length ≤ 16) && okP none l
set_option maxHeartbeats 4000000 in
theorem okP_loop {l : List Prp} {p : PV} (hp : LR PpC p l) : ∀ (rest pre : List Prp), l = pre ++ rest →
    V T (PE fun x e st' => st' = emptySt ∧ ((x = .exit 0 ∧ okP pre.getLast? rest = true) ∨ (x = .ret ∧ e = ecOf [(2, .bool false)] ∧ okP pre.getLast? rest = false))) [.code (.loop lp_rambleref10_props_0)] .normal (ecOf [(0, p), (3, .int .i64 pre.length)]) emptySt := by
  obtain ⟨e1, e2, hbig⟩ := hp.len
  intro rest
  induction rest with
  | nil =>
    intro pre hl
    have hlt : decide ((pre.length : Int) < l.length) = false := decide_eq_false (by subst hl; simp)
    refine V_unroll ?_
    repeat' first | ((with_reducible show Go.AM.V _ _ _ _ _ _); first | refine V_cH hlt rfl rfl ?_ | refine V_out [] rfl trivial ⟨rfl, .inl ⟨rfl, rfl⟩⟩ | refine V_O rfl ?_) | ((with_reducible show Go.AM.VO _ _ _ _ _ _ _); first | refine O_lenO rfl e1 e2 ?_ | refine O_step rfl ?_ | refine O_nil' ?_)
  | cons x rest ih =>
    intro pre hl
    have hlt : decide ((pre.length : Int) < l.length) = true := decide_eq_true (by subst hl; simp; omega)
    have hpl : pre.length < l.length := by subst hl; simp
    obtain ⟨cs, hat, hvc⟩ := hp.at (fun _ _ h => h.len5) (j := pre.length) (a := x) (by subst hl; simp)
    have hcl := hvc.len5
    obtain ⟨hnl, vc, rfl, hvv⟩ := hvc
    have hw : IntKind.i64.wrap ((pre.length : Int) + 1) = ((pre ++ [x]).length : Int) := by rw [wrap_i64]; simp; omega
    have hvl := hvv.len4
    have hvp := hvv.pl
    have hnm := run_rName hnl
    have hck := run_Check2 hvv
    have hld : ∀ look : Nat → Option Tok, loadAt look 4 true (.iptr (.str x.name :: vc) 1) = some (.agg vc) := fun look => by
      have h1 : (vc.drop 0).take 4 = vc := by simp [← hvl]
      simp only [loadAt, behind, Option.bind_some, slice?]
      rw [if_pos (by simp [hvl])]
      simp [← hvl]
    have hi := ih (pre ++ [x]) (by rw [hl]; simp)
    have hgl : (pre ++ [x]).getLast? = some x := by simp
    rw [hgl] at hi
    rw [okP]
    refine V_unroll ?_
    by_cases hn : nameB x.name = true
    · rw [hn] at hnm ⊢
      have hgo : ∀ up : Bool, notUp pre.getLast? x = up → (PV.int IntKind.i64 (chk x.val) = .int .i64 0 ∨ True) := fun _ _ => .inr trivial
      by_cases hpre : pre = []
      · subst hpre
        have hu : notUp ([] : List Prp).getLast? x = false := rfl
        rw [hu]
        by_cases hc : chk x.val = 0
        · rw [hc] at hck ⊢
          repeat' first | ((with_reducible show Go.AM.V _ _ _ _ _ _); first | refine V_cHT hlt rfl rfl ?_ | refine V_monoP (V_re rfl hi ⟨rfl, some_int hw, trivial⟩) ?_ | refine V_O rfl ?_ | refine V_cF rfl rfl ?_ | refine V_D rfl ?_) | ((with_reducible show Go.AM.VO _ _ _ _ _ _ _); first | refine O_lenO rfl e1 e2 ?_ | refine O_step rfl ?_ | refine O_nil' ?_) | ((with_reducible show Go.AM.VD _ _ _ _ _ _ _); first | refine D_at rfl rfl hat ?_ | refine D_cA rfl rfl hnm ?_ | refine D_cA rfl rfl hck ?_ | refine D_loadG rfl (hld _) ?_ | refine D_step rfl ?_ | refine D_nil' ?_ | refine D_gT' rfl ?_ | refine D_gF' rfl rfl ?_)
          rintro y e st' ⟨rfl, ⟨rfl, h⟩ | ⟨rfl, rfl, h⟩⟩
          · exact ⟨rfl, .inl ⟨rfl, by simp [h]⟩⟩
          · exact ⟨rfl, .inr ⟨rfl, rfl, by simp [h]⟩⟩
        · have hd := dec_not (p := chk x.val = 0) hc
          repeat' first | ((with_reducible show Go.AM.V _ _ _ _ _ _); first | refine V_cHT hlt rfl rfl ?_ | refine V_out [(2, .bool false)] rfl ⟨rfl, trivial⟩ ⟨rfl, .inr ⟨rfl, rfl, by simp [hc]⟩⟩ | refine V_O rfl ?_ | refine V_cT rfl rfl ?_ | refine V_D rfl ?_) | ((with_reducible show Go.AM.VO _ _ _ _ _ _ _); first | refine O_lenO rfl e1 e2 ?_ | refine O_step rfl ?_ | refine O_nil' ?_) | ((with_reducible show Go.AM.VD _ _ _ _ _ _ _); first | refine D_at rfl rfl hat ?_ | refine D_cA rfl rfl hnm ?_ | refine D_cA rfl rfl hck ?_ | refine D_loadG rfl (hld _) ?_ | refine D_is (ndec_not (p := chk x.val = 0) hc) rfl ?_ | refine D_step rfl ?_ | refine D_nil' ?_ | refine D_gT' rfl ?_ | refine D_gF' rfl rfl ?_)
      · obtain ⟨pre0, y, hpy⟩ : ∃ pre0 y, pre = pre0 ++ [y] := ⟨pre.dropLast, pre.getLast hpre, (List.dropLast_concat_getLast hpre).symm⟩
        subst hpy
        have hgl2 : (pre0 ++ [y]).getLast? = some y := by simp
        rw [hgl2]
        have hpos := dec_is (p := ((pre0 ++ [y]).length : Int) > 0) (by simp)
        have hw1 : PV.int .i64 (IntKind.i64.wrap (((pre0 ++ [y]).length : Int) - 1)) = PV.int .i64 (pre0.length : Int) := int_is (by rw [wrap_i64]; simp at hpl ⊢; omega)
        obtain ⟨cs2, hat2, hvc2⟩ := hp.at (fun _ _ h => h.len5) (j := pre0.length) (a := y) (by subst hl; simp)
        obtain ⟨hnl2, vc2, rfl, hvv2⟩ := hvc2
        cases hu : notUp (some y) x with
        | true =>
          have hu2 : PV.bool (bytesLess x.name y.name || decide (x.name = y.name)) = .bool true := by simpa [notUp] using hu
          repeat' first | ((with_reducible show Go.AM.V _ _ _ _ _ _); first | refine V_cHT hlt rfl rfl ?_ | refine V_out [(2, .bool false)] rfl ⟨rfl, trivial⟩ ⟨rfl, .inr ⟨rfl, rfl, by simp⟩⟩ | refine V_O rfl ?_ | refine V_cT rfl rfl ?_ | refine V_D rfl ?_) | ((with_reducible show Go.AM.VO _ _ _ _ _ _ _); first | refine O_lenO rfl e1 e2 ?_ | refine O_step rfl ?_ | refine O_nil' ?_) | ((with_reducible show Go.AM.VD _ _ _ _ _ _ _); first | refine D_at rfl rfl hat ?_ | refine D_at rfl rfl hat2 ?_ | refine D_cA rfl rfl hnm ?_ | refine D_is hpos rfl ?_ | refine D_is hw1 rfl ?_ | refine D_is hu2 rfl ?_ | refine D_step rfl ?_ | refine D_nil' ?_ | refine D_gT' rfl ?_ | refine D_gF' rfl rfl ?_)
        | false =>
          have hu2 : PV.bool (bytesLess x.name y.name || decide (x.name = y.name)) = .bool false := by simpa [notUp] using hu
          by_cases hc : chk x.val = 0
          · rw [hc] at hck ⊢
            repeat' first | ((with_reducible show Go.AM.V _ _ _ _ _ _); first | refine V_cHT hlt rfl rfl ?_ | refine V_monoP (V_re rfl hi ⟨rfl, some_int hw, trivial⟩) ?_ | refine V_O rfl ?_ | refine V_cF rfl rfl ?_ | refine V_D rfl ?_) | ((with_reducible show Go.AM.VO _ _ _ _ _ _ _); first | refine O_lenO rfl e1 e2 ?_ | refine O_step rfl ?_ | refine O_nil' ?_) | ((with_reducible show Go.AM.VD _ _ _ _ _ _ _); first | refine D_at rfl rfl hat ?_ | refine D_at rfl rfl hat2 ?_ | refine D_cA rfl rfl hnm ?_ | refine D_cA rfl rfl hck ?_ | refine D_loadG rfl (hld _) ?_ | refine D_is hpos rfl ?_ | refine D_is hw1 rfl ?_ | refine D_is hu2 rfl ?_ | refine D_step rfl ?_ | refine D_nil' ?_ | refine D_gT' rfl ?_)
            rintro y e st' ⟨rfl, ⟨rfl, h⟩ | ⟨rfl, rfl, h⟩⟩
            · exact ⟨rfl, .inl ⟨rfl, by simp [h]⟩⟩
            · exact ⟨rfl, .inr ⟨rfl, rfl, by simp [h]⟩⟩
          · repeat' first | ((with_reducible show Go.AM.V _ _ _ _ _ _); first | refine V_cHT hlt rfl rfl ?_ | refine V_out [(2, .bool false)] rfl ⟨rfl, trivial⟩ ⟨rfl, .inr ⟨rfl, rfl, by simp [hc]⟩⟩ | refine V_O rfl ?_ | refine V_cT rfl rfl ?_ | refine V_D rfl ?_) | ((with_reducible show Go.AM.VO _ _ _ _ _ _ _); first | refine O_lenO rfl e1 e2 ?_ | refine O_step rfl ?_ | refine O_nil' ?_) | ((with_reducible show Go.AM.VD _ _ _ _ _ _ _); first | refine D_at rfl rfl hat ?_ | refine D_at rfl rfl hat2 ?_ | refine D_cA rfl rfl hnm ?_ | refine D_cA rfl rfl hck ?_ | refine D_loadG rfl (hld _) ?_ | refine D_is hpos rfl ?_ | refine D_is hw1 rfl ?_ | refine D_is hu2 rfl ?_ | refine D_is (ndec_not (p := chk x.val = 0) hc) rfl ?_ | refine D_step rfl ?_ | refine D_nil' ?_ | refine D_gT' rfl ?_)
    · have hn2 : nameB x.name = false := by simpa using hn
      rw [hn2] at hnm ⊢
      repeat' first | ((with_reducible show Go.AM.V _ _ _ _ _ _); first | refine V_cHT hlt rfl rfl ?_ | refine V_out [(2, .bool false)] rfl ⟨rfl, trivial⟩ ⟨rfl, .inr ⟨rfl, rfl, rfl⟩⟩ | refine V_O rfl ?_ | refine V_cT rfl rfl ?_ | refine V_D rfl ?_) | ((with_reducible show Go.AM.VO _ _ _ _ _ _ _); first | refine O_lenO rfl e1 e2 ?_ | refine O_step rfl ?_ | refine O_nil' ?_) | ((with_reducible show Go.AM.VD _ _ _ _ _ _ _); first | refine D_at rfl rfl hat ?_ | refine D_cA rfl rfl hnm ?_ | refine D_step rfl ?_ | refine D_nil' ?_ | refine D_gU' rfl ?_ | refine D_gF' rfl rfl ?_)
theorem run_propsOk {l : List Prp} {p : PV} (hp : LR PpC p l) : T.R (.call n_rambleref10_props [p] (.bool (propsOk l))) := by
  obtain ⟨e1, e2, hbig⟩ := hp.len
  have hpp := hp.pl (fun a _ cs h => h.pl)
  have hl := okP_loop hp l [] rfl
  by_cases h16 : l.length ≤ 16
  · have hd := dec_not (p := (l.length : Int) > 16) (by omega)
    have e : propsOk l = okP none l := by simp [propsOk, h16]
    rw [e]
    refine call_V rfl rfl ?_
    repeat' first | ((with_reducible show Go.AM.V _ _ _ _ _ _); first | refine V_cutTo rfl hl ⟨rfl, rfl, trivial⟩ ?_ | refine V_O rfl ?_ | refine V_cF rfl rfl ?_) | ((with_reducible show Go.AM.VO _ _ _ _ _ _ _); first | refine O_lenO rfl e1 e2 ?_ | refine O_is hd rfl ?_ | refine O_step rfl ?_ | refine O_nil' ?_)
    rintro x e' st' ⟨rfl, ⟨rfl, h⟩ | ⟨rfl, rfl, h⟩⟩
    · repeat' first | ((with_reducible show Go.AM.V _ _ _ _ _ _); first | refine V_O rfl ?_ | refine V_fA rfl rfl ?_) | ((with_reducible show Go.AM.VO _ _ _ _ _ _ _); first | refine O_step rfl ?_ | refine O_nil' ?_)
      exact congrArg _ h.symm
    · repeat' first | refine V_fA rfl rfl ?_
      exact congrArg _ h.symm
  · have hd := dec_is (p := (l.length : Int) > 16) (by omega)
    have e : propsOk l = false := by simp [propsOk, h16]
    rw [e]
    refine call_V rfl rfl ?_
    repeat' first | ((with_reducible show Go.AM.V _ _ _ _ _ _); first | refine V_O rfl ?_ | refine V_cT rfl rfl ?_ | refine V_fA rfl rfl ?_) | ((with_reducible show Go.AM.VO _ _ _ _ _ _ _); first | refine O_lenO rfl e1 e2 ?_ | refine O_is hd rfl ?_ | refine O_step rfl ?_ | refine O_nil' ?_)
    rfl
end Go.Proofs.YtgdjnlopdpjnaaaGreatDoor
set_option linter.unusedVariables false
set_option linter.unusedSimpArgs false
namespace Go.Proofs.YtgdjnlopdpjnaaaGreatDoor
open Go Go.AM Go.RowKit
def okVtx (v : Vtx) : Bool := idB v.id && nameB v.label && propsOk v.props
def okLnk (v : Vtx) (e : Lnk) : Bool := idB e.id && nameB e.label && propsOk e.props && !decide (v.id = e.id)
def standsB (v : Vtx) (e : Lnk) : Bool := okVtx v && decide (e.out = v.id) && decide (e.into = v.id) && okLnk v e
def zV : List PV := [.int .i64 0, .str [], .nilSl]
theorem run_gV {i : Int} {s : List UInt8} {p pE : PV} (hp : Pl p) (hE : Pl pE) (hE1 : PV.one pE = true) (hp1 : PV.one p = true) {last n : Int} : T.R (.call n_rambleref10_V [.agg [.sl [[.int .i64 i, .str s, p]] true, pE, .int .i64 last], .int .i64 n] (if i = n then .tuple [.agg [.int .i64 i, .str s, p], .bool true] else .tuple [.agg zV, .bool false])) := by
  have hst : storeAt ((emptySt.new (.var [.sl [[.int .i64 i, .str s, p]] true, pE, .int .i64 last])).new (.var zV)) (.ptr 1 0) (.agg [.int .i64 i, .str s, p]) = some (((emptySt.new (.var [.sl [[.int .i64 i, .str s, p]] true, pE, .int .i64 last])).new (.var zV)).put 1 (.var [.int .i64 i, .str s, p])) := storeAt_whole St.get_new rfl
  have hone : (PV.agg [.int .i64 i, .str s, p]).cells.all PV.one = true := by
    show [PV.int .i64 i, .str s, p].all PV.one = true
    simp only [List.all_cons, List.all_nil, hp1]
    rfl
  by_cases h : i = n
  · have hd := dec_is (p := i = n) h
    rw [if_pos h]
    refine call_V rfl rfl ?_
    repeat' first | ((with_reducible show Go.AM.V _ _ _ _ _ _); first | refine V_loop rfl (V_unroll ?_) | refine V_O rfl ?_ | refine V_cT rfl rfl ?_ | refine V_fA rfl rfl ?_) | ((with_reducible show Go.AM.VO _ _ _ _ _ _ _); first | refine O_is hd rfl ?_ | refine O_storeV rfl rfl hone rfl rfl hst ?_ | refine O_step rfl ?_ | refine O_stepL rfl ?_ | refine O_nil' ?_)
    rfl
  · have hd := dec_not (p := i = n) h
    rw [if_neg h]
    refine call_V rfl rfl ?_
    repeat' first | ((with_reducible show Go.AM.V _ _ _ _ _ _); first | refine V_loop rfl (V_unroll ?_) | refine V_O rfl ?_ | refine V_cT rfl rfl ?_ | refine V_cF rfl rfl ?_ | refine V_fA rfl rfl ?_) | ((with_reducible show Go.AM.VO _ _ _ _ _ _ _); first | refine O_is hd rfl ?_ | refine O_step rfl ?_ | refine O_stepL rfl ?_ | refine O_nil' ?_)
    rfl
theorem lr_one {α : Type} {R : α → List PV → Prop} {p : PV} {l : List α} (h : LR R p l) : PV.one p = true := by
  rcases h with ⟨rfl, _⟩ | ⟨xs, f, rfl, _⟩ <;> rfl
theorem idB_cases {n : Int} : (n < 1 ∧ idB n = false) ∨ (¬ n < 1 ∧ 281474976710656 < n ∧ idB n = false) ∨ (¬ n < 1 ∧ ¬ 281474976710656 < n ∧ idB n = true) := by
  by_cases h1 : n < 1
  · exact .inl ⟨h1, by simp [idB]; omega⟩
  · by_cases h2 : 281474976710656 < n
    · exact .inr (.inl ⟨h1, h2, by simp [idB]; omega⟩)
    · exact .inr (.inr ⟨h1, h2, by simp [idB]; omega⟩)
set_option maxHeartbeats 4000000 in
theorem run_gCheck1 {v : Vtx} {cs : List PV} (hv : VtC v cs) : T.R (.call n_rambleref10_Check [.agg [.sl [cs] true, .nilSl, .int .i64 281474976710656]] (.int .i64 (if okVtx v = true then 0 else 103))) := by
  obtain ⟨hid, hlab, p, rfl, hp⟩ := hv
  have hpp := hp.pl (fun a _ cs h => h.pl)
  have hp1 := lr_one hp
  have hnm := run_rName hlab
  have hpr := run_propsOk hp
  have hone : (PV.agg [.int .i64 v.id, .str v.label, p]).cells.all PV.one = true := by
    show [PV.int .i64 v.id, .str v.label, p].all PV.one = true
    simp only [List.all_cons, List.all_nil, hp1]
    rfl
  rcases idB_cases (n := v.id) with ⟨h1, h2⟩ | ⟨h1, h3, h2⟩ | ⟨h1, h3, h2⟩
  · have d1 := dec_is (p := v.id < 1) h1
    have e : okVtx v = false := by simp [okVtx, h2]
    rw [e]
    refine call_V rfl rfl ?_
    repeat' first | ((with_reducible show Go.AM.V _ _ _ _ _ _); first | refine V_loop rfl (V_unroll ?_) | refine V_O rfl ?_ | refine V_cT rfl rfl ?_ | refine V_cF rfl rfl ?_ | refine V_fA rfl rfl ?_ | refine V_D rfl ?_) | ((with_reducible show Go.AM.VO _ _ _ _ _ _ _); first | refine O_storeV rfl rfl hone rfl rfl rfl ?_ | refine O_step rfl ?_ | refine O_stepL rfl ?_ | refine O_nil' ?_ | refine O_gT' rfl ?_) | ((with_reducible show Go.AM.VD _ _ _ _ _ _ _); first | refine D_is (d := some 47) d1 rfl ?_ | refine D_step rfl ?_ | refine D_nil' ?_ | refine D_gU' rfl ?_ | refine D_gF' rfl rfl ?_)
    rfl
  · have d1 := dec_not (p := v.id < 1) h1
    have d2 := dec_is (p := v.id > 281474976710656) h3
    have e : okVtx v = false := by simp [okVtx, h2]
    rw [e]
    refine call_V rfl rfl ?_
    repeat' first | ((with_reducible show Go.AM.V _ _ _ _ _ _); first | refine V_loop rfl (V_unroll ?_) | refine V_O rfl ?_ | refine V_cT rfl rfl ?_ | refine V_cF rfl rfl ?_ | refine V_fA rfl rfl ?_ | refine V_D rfl ?_) | ((with_reducible show Go.AM.VO _ _ _ _ _ _ _); first | refine O_storeV rfl rfl hone rfl rfl rfl ?_ | refine O_step rfl ?_ | refine O_stepL rfl ?_ | refine O_nil' ?_ | refine O_gT' rfl ?_) | ((with_reducible show Go.AM.VD _ _ _ _ _ _ _); first | refine D_is (d := some 47) d1 rfl ?_ | refine D_is (d := some 53) d2 rfl ?_ | refine D_step rfl ?_ | refine D_nil' ?_ | refine D_gT' rfl ?_ | refine D_gU' rfl ?_ | refine D_gF' rfl rfl ?_)
    rfl
  · have d1 := dec_not (p := v.id < 1) h1
    have d2 := dec_not (p := v.id > 281474976710656) h3
    cases hn : nameB v.label with
    | false =>
      have e : okVtx v = false := by simp [okVtx, hn]
      rw [e]
      rw [hn] at hnm
      refine call_V rfl rfl ?_
      repeat' first | ((with_reducible show Go.AM.V _ _ _ _ _ _); first | refine V_loop rfl (V_unroll ?_) | refine V_O rfl ?_ | refine V_cT rfl rfl ?_ | refine V_cF rfl rfl ?_ | refine V_fA rfl rfl ?_ | refine V_D rfl ?_) | ((with_reducible show Go.AM.VO _ _ _ _ _ _ _); first | refine O_storeV rfl rfl hone rfl rfl rfl ?_ | refine O_step rfl ?_ | refine O_stepL rfl ?_ | refine O_nil' ?_ | refine O_gT' rfl ?_) | ((with_reducible show Go.AM.VD _ _ _ _ _ _ _); first | refine D_is (d := some 47) d1 rfl ?_ | refine D_is (d := some 53) d2 rfl ?_ | refine D_cA rfl rfl hnm ?_ | refine D_step rfl ?_ | refine D_nil' ?_ | refine D_gT' rfl ?_ | refine D_gF' rfl rfl ?_)
      rfl
    | true =>
      rw [hn] at hnm
      cases hq : propsOk v.props with
      | false =>
        have e : okVtx v = false := by simp [okVtx, hq]
        rw [e]
        rw [hq] at hpr
        refine call_V rfl rfl ?_
        repeat' first | ((with_reducible show Go.AM.V _ _ _ _ _ _); first | refine V_loop rfl (V_unroll ?_) | refine V_O rfl ?_ | refine V_cT rfl rfl ?_ | refine V_cF rfl rfl ?_ | refine V_fA rfl rfl ?_ | refine V_D rfl ?_) | ((with_reducible show Go.AM.VO _ _ _ _ _ _ _); first | refine O_storeV rfl rfl hone rfl rfl rfl ?_ | refine O_step rfl ?_ | refine O_stepL rfl ?_ | refine O_nil' ?_ | refine O_gT' rfl ?_) | ((with_reducible show Go.AM.VD _ _ _ _ _ _ _); first | refine D_is (d := some 47) d1 rfl ?_ | refine D_is (d := some 53) d2 rfl ?_ | refine D_cA rfl rfl hnm ?_ | refine D_cA rfl rfl hpr ?_ | refine D_step rfl ?_ | refine D_nil' ?_ | refine D_gT' rfl ?_ | refine D_gF' rfl rfl ?_)
        rfl
      | true =>
        have e : okVtx v = true := by simp [okVtx, h2, hn, hq]
        rw [e]
        rw [hq] at hpr
        refine call_V rfl rfl ?_
        repeat' first | ((with_reducible show Go.AM.V _ _ _ _ _ _); first | refine V_loop rfl (V_unroll ?_) | refine V_O rfl ?_ | refine V_cT rfl rfl ?_ | refine V_cF rfl rfl ?_ | refine V_fA rfl rfl ?_ | refine V_D rfl ?_) | ((with_reducible show Go.AM.VO _ _ _ _ _ _ _); first | refine O_storeV rfl rfl hone rfl rfl rfl ?_ | refine O_step rfl ?_ | refine O_stepL rfl ?_ | refine O_nil' ?_ | refine O_gT' rfl ?_) | ((with_reducible show Go.AM.VD _ _ _ _ _ _ _); first | refine D_is (d := some 47) d1 rfl ?_ | refine D_is (d := some 53) d2 rfl ?_ | refine D_cA rfl rfl hnm ?_ | refine D_cA rfl rfl hpr ?_ | refine D_step rfl ?_ | refine D_nil' ?_ | refine D_gT' rfl ?_ | refine D_gF' rfl rfl ?_)
        rfl
end Go.Proofs.YtgdjnlopdpjnaaaGreatDoor
set_option linter.unusedVariables false
set_option linter.unusedSimpArgs false
namespace Go.Proofs.YtgdjnlopdpjnaaaGreatDoor
open Go Go.AM Go.RowKit
set_option maxHeartbeats 8000000 in
theorem run_gCheck2 {v : Vtx} {cs : List PV} (hv : VtC v cs) (hok : okVtx v = true) {e : Lnk} {ds : List PV} (he : LkC e ds) (ho : e.out = v.id) (hi : e.into = v.id) : T.R (.call n_rambleref10_Check [.agg [.sl [cs] true, .sl [ds] true, .int .i64 281474976710656]] (.int .i64 (if okLnk v e = true then 0 else 103))) := by
  obtain ⟨hid, hlab, p, rfl, hp⟩ := hv
  obtain ⟨hid', hlab', _, _, p', rfl, hp'⟩ := he
  have hpp := hp.pl (fun a _ cs h => h.pl)
  have hp1 := lr_one hp
  have hpp' := hp'.pl (fun a _ cs h => h.pl)
  have hp1' := lr_one hp'
  have hnm := run_rName hlab
  have hpr := run_propsOk hp
  have hnm' := run_rName hlab'
  have hpr' := run_propsOk hp'
  simp only [okVtx, Bool.and_eq_true] at hok
  obtain ⟨⟨h2, hn⟩, hq⟩ := hok
  rw [hn] at hnm
  rw [hq] at hpr
  have h1 : ¬ v.id < 1 := by simp [idB] at h2; omega
  have h3 : ¬ v.id > 281474976710656 := by simp [idB] at h2; omega
  have d1 := dec_not (p := v.id < 1) h1
  have d2 := dec_not (p := v.id > 281474976710656) h3
  have hone : (PV.agg [.int .i64 v.id, .str v.label, p]).cells.all PV.one = true := by
    show [PV.int .i64 v.id, .str v.label, p].all PV.one = true
    simp only [List.all_cons, List.all_nil, hp1]
    rfl
  have hone' : (PV.agg [.int .i64 e.id, .str e.label, .int .i64 e.out, .int .i64 e.into, p']).cells.all PV.one = true := by
    show [PV.int .i64 e.id, .str e.label, .int .i64 e.out, .int .i64 e.into, p'].all PV.one = true
    simp only [List.all_cons, List.all_nil, hp1']
    rfl
  have hpE : Pl (.sl [[.int .i64 e.id, .str e.label, .int .i64 e.out, .int .i64 e.into, p']] true) := .sl _ _ (pll_cons (pl_cons (.int _ _) (pl_cons (.str _) (pl_cons (.int _ _) (pl_cons (.int _ _) (pl_cons hpp' pl_nil))))) pll_nil)
  rw [ho, hi] at hone' hpE
  have g1 := run_gV (i := v.id) (s := v.label) hpp hpE rfl hp1 (last := 281474976710656) (n := e.id)
  have g2 := run_gV (i := v.id) (s := v.label) hpp hpE rfl hp1 (last := 281474976710656) (n := v.id)
  rw [if_pos rfl] at g2
  rw [ho, hi]
  rcases idB_cases (n := e.id) with ⟨h1', h2'⟩ | ⟨h1', h3', h2'⟩ | ⟨h1', h3', h2'⟩
  · have d3 := dec_is (p := e.id < 1) h1'
    have hk : okLnk v e = false := by simp [okLnk, h2']
    rw [hk]
    refine call_V rfl rfl ?_
    repeat' first | ((with_reducible show Go.AM.V _ _ _ _ _ _); first | refine V_loop rfl (V_unroll ?_) | refine V_O rfl ?_ | refine V_cT rfl rfl ?_ | refine V_cF rfl rfl ?_ | refine V_fA rfl rfl ?_ | refine V_D rfl ?_) | ((with_reducible show Go.AM.VO _ _ _ _ _ _ _); first | refine O_storeV rfl rfl hone rfl rfl rfl ?_ | refine O_storeV rfl rfl hone' rfl rfl rfl ?_ | refine O_step rfl ?_ | refine O_stepL rfl ?_ | refine O_nil' ?_ | refine O_gT' rfl ?_) | ((with_reducible show Go.AM.VD _ _ _ _ _ _ _); first | refine D_is (d := some 47) d1 rfl ?_ | refine D_is (d := some 53) d2 rfl ?_ | refine D_is (d := some 97) d3 rfl ?_ | refine D_cA rfl rfl hnm ?_ | refine D_cA rfl rfl hpr ?_ | refine D_step rfl ?_ | refine D_nil' ?_ | refine D_gT' rfl ?_ | refine D_gU' rfl ?_ | refine D_gF' rfl rfl ?_)
    rfl
  · have d3 := dec_not (p := e.id < 1) h1'
    have d4 := dec_is (p := e.id > 281474976710656) h3'
    have hk : okLnk v e = false := by simp [okLnk, h2']
    rw [hk]
    refine call_V rfl rfl ?_
    repeat' first | ((with_reducible show Go.AM.V _ _ _ _ _ _); first | refine V_loop rfl (V_unroll ?_) | refine V_O rfl ?_ | refine V_cT rfl rfl ?_ | refine V_cF rfl rfl ?_ | refine V_fA rfl rfl ?_ | refine V_D rfl ?_) | ((with_reducible show Go.AM.VO _ _ _ _ _ _ _); first | refine O_storeV rfl rfl hone rfl rfl rfl ?_ | refine O_storeV rfl rfl hone' rfl rfl rfl ?_ | refine O_step rfl ?_ | refine O_stepL rfl ?_ | refine O_nil' ?_ | refine O_gT' rfl ?_) | ((with_reducible show Go.AM.VD _ _ _ _ _ _ _); first | refine D_is (d := some 47) d1 rfl ?_ | refine D_is (d := some 53) d2 rfl ?_ | refine D_is (d := some 97) d3 rfl ?_ | refine D_is (d := some 103) d4 rfl ?_ | refine D_cA rfl rfl hnm ?_ | refine D_cA rfl rfl hpr ?_ | refine D_step rfl ?_ | refine D_nil' ?_ | refine D_gT' rfl ?_ | refine D_gU' rfl ?_ | refine D_gF' rfl rfl ?_)
    rfl
  · have d3 := dec_not (p := e.id < 1) h1'
    have d4 := dec_not (p := e.id > 281474976710656) h3'
    cases hn' : nameB e.label with
    | false =>
      have hk : okLnk v e = false := by simp [okLnk, hn']
      rw [hk]
      rw [hn'] at hnm'
      refine call_V rfl rfl ?_
      repeat' first | ((with_reducible show Go.AM.V _ _ _ _ _ _); first | refine V_loop rfl (V_unroll ?_) | refine V_O rfl ?_ | refine V_cT rfl rfl ?_ | refine V_cF rfl rfl ?_ | refine V_fA rfl rfl ?_ | refine V_D rfl ?_) | ((with_reducible show Go.AM.VO _ _ _ _ _ _ _); first | refine O_storeV rfl rfl hone rfl rfl rfl ?_ | refine O_storeV rfl rfl hone' rfl rfl rfl ?_ | refine O_step rfl ?_ | refine O_stepL rfl ?_ | refine O_nil' ?_ | refine O_gT' rfl ?_) | ((with_reducible show Go.AM.VD _ _ _ _ _ _ _); first | refine D_is (d := some 47) d1 rfl ?_ | refine D_is (d := some 53) d2 rfl ?_ | refine D_is (d := some 97) d3 rfl ?_ | refine D_is (d := some 103) d4 rfl ?_ | refine D_cA rfl rfl hnm' ?_ | refine D_cA rfl rfl hnm ?_ | refine D_cA rfl rfl hpr ?_ | refine D_step rfl ?_ | refine D_nil' ?_ | refine D_gT' rfl ?_ | refine D_gF' rfl rfl ?_)
      rfl
    | true =>
      rw [hn'] at hnm'
      cases hq' : propsOk e.props with
      | false =>
        have hk : okLnk v e = false := by simp [okLnk, hq']
        rw [hk]
        rw [hq'] at hpr'
        refine call_V rfl rfl ?_
        repeat' first | ((with_reducible show Go.AM.V _ _ _ _ _ _); first | refine V_loop rfl (V_unroll ?_) | refine V_O rfl ?_ | refine V_cT rfl rfl ?_ | refine V_cF rfl rfl ?_ | refine V_fA rfl rfl ?_ | refine V_D rfl ?_) | ((with_reducible show Go.AM.VO _ _ _ _ _ _ _); first | refine O_storeV rfl rfl hone rfl rfl rfl ?_ | refine O_storeV rfl rfl hone' rfl rfl rfl ?_ | refine O_step rfl ?_ | refine O_stepL rfl ?_ | refine O_nil' ?_ | refine O_gT' rfl ?_) | ((with_reducible show Go.AM.VD _ _ _ _ _ _ _); first | refine D_is (d := some 47) d1 rfl ?_ | refine D_is (d := some 53) d2 rfl ?_ | refine D_is (d := some 97) d3 rfl ?_ | refine D_is (d := some 103) d4 rfl ?_ | refine D_cA rfl rfl hnm' ?_ | refine D_cA rfl rfl hpr' ?_ | refine D_cA rfl rfl hnm ?_ | refine D_cA rfl rfl hpr ?_ | refine D_step rfl ?_ | refine D_nil' ?_ | refine D_gT' rfl ?_ | refine D_gF' rfl rfl ?_)
        rfl
      | true =>
        rw [hq'] at hpr'
        by_cases hve : v.id = e.id
        · have hk : okLnk v e = false := by simp [okLnk, hve]
          rw [hk]
          rw [if_pos hve] at g1
          refine call_V rfl rfl ?_
          repeat' first | ((with_reducible show Go.AM.V _ _ _ _ _ _); first | refine V_loop rfl (V_unroll ?_) | refine V_O rfl ?_ | refine V_cT rfl rfl ?_ | refine V_cF rfl rfl ?_ | refine V_fA rfl rfl ?_ | refine V_D rfl ?_) | ((with_reducible show Go.AM.VO _ _ _ _ _ _ _); first | refine O_storeV rfl rfl hone rfl rfl rfl ?_ | refine O_storeV rfl rfl hone' rfl rfl rfl ?_ | refine O_cA rfl rfl g1 ?_ | refine O_cA rfl rfl g2 ?_ | refine O_step rfl ?_ | refine O_stepL rfl ?_ | refine O_nil' ?_ | refine O_gT' rfl ?_ | refine O_gF' rfl rfl ?_) | ((with_reducible show Go.AM.VD _ _ _ _ _ _ _); first | refine D_is (d := some 47) d1 rfl ?_ | refine D_is (d := some 53) d2 rfl ?_ | refine D_is (d := some 97) d3 rfl ?_ | refine D_is (d := some 103) d4 rfl ?_ | refine D_cA rfl rfl hnm' ?_ | refine D_cA rfl rfl hpr' ?_ | refine D_cA rfl rfl hnm ?_ | refine D_cA rfl rfl hpr ?_ | refine D_step rfl ?_ | refine D_nil' ?_ | refine D_gT' rfl ?_ | refine D_gF' rfl rfl ?_)
          rfl
        · have hk : okLnk v e = true := by simp [okLnk, h2', hn', hq', hve]
          rw [hk]
          rw [if_neg hve] at g1
          refine call_V rfl rfl ?_
          repeat' first | ((with_reducible show Go.AM.V _ _ _ _ _ _); first | refine V_loop rfl (V_unroll ?_) | refine V_O rfl ?_ | refine V_cT rfl rfl ?_ | refine V_cF rfl rfl ?_ | refine V_fA rfl rfl ?_ | refine V_D rfl ?_) | ((with_reducible show Go.AM.VO _ _ _ _ _ _ _); first | refine O_storeV rfl rfl hone rfl rfl rfl ?_ | refine O_storeV rfl rfl hone' rfl rfl rfl ?_ | refine O_cA rfl rfl g1 ?_ | refine O_cA rfl rfl g2 ?_ | refine O_step rfl ?_ | refine O_stepL rfl ?_ | refine O_nil' ?_ | refine O_gT' rfl ?_) | ((with_reducible show Go.AM.VD _ _ _ _ _ _ _); first | refine D_is (d := some 47) d1 rfl ?_ | refine D_is (d := some 53) d2 rfl ?_ | refine D_is (d := some 97) d3 rfl ?_ | refine D_is (d := some 103) d4 rfl ?_ | refine D_cA rfl rfl hnm' ?_ | refine D_cA rfl rfl hpr' ?_ | refine D_cA rfl rfl hnm ?_ | refine D_cA rfl rfl hpr ?_ | refine D_step rfl ?_ | refine D_nil' ?_ | refine D_gT' rfl ?_ | refine D_gF' rfl rfl ?_)
          rfl
theorem build_sl {i : Int} {s : List UInt8} {p : PV} (hp1 : PV.one p = true) : ∀ (look : Nat → Option Tok) (e : EC) {k : Nat}, e.get k = some (.agg [.int .i64 i, .str s, p]) → stepQ look e (.buildSl 3 [[.int .i64 0, .str [], .nilSl]] [(0, .t k)]) = some (.sl [[.int .i64 i, .str s, p]] true) := fun look e k h => by
  have hp2 : p.isJunk = false := by cases p <;> first | rfl | cases hp1
  simp only [stepQ, partsOf, elsOf, Opd.get, h]
  simp [fillElems, allOf, PV.cells, PV.isJunk, hp1, hp2]
theorem build_sl5 {i o n : Int} {s : List UInt8} {p : PV} (hp1 : PV.one p = true) : ∀ (look : Nat → Option Tok) (e : EC) {k : Nat}, e.get k = some (.agg [.int .i64 i, .str s, .int .i64 o, .int .i64 n, p]) → stepQ look e (.buildSl 5 [[.int .i64 0, .str [], .int .i64 0, .int .i64 0, .nilSl]] [(0, .t k)]) = some (.sl [[.int .i64 i, .str s, .int .i64 o, .int .i64 n, p]] true) := fun look e k h => by
  have hp2 : p.isJunk = false := by cases p <;> first | rfl | cases hp1
  simp only [stepQ, partsOf, elsOf, Opd.get, h]
  simp [fillElems, allOf, PV.cells, PV.isJunk, hp1, hp2]
set_option maxHeartbeats 4000000 in
theorem run_stands {v : Vtx} {cs : List PV} (hv : VtC v cs) {e : Lnk} {ds : List PV} (he : LkC e ds) : T.R (.call n_ramblelaw11_stands [.agg cs, .agg ds] (.bool (standsB v e))) := by
  have c1 := run_gCheck1 hv
  have c2 := fun h1 h2 h3 => run_gCheck2 hv h1 he h2 h3
  obtain ⟨hid, hlab, p, rfl, hp⟩ := hv
  obtain ⟨hid', hlab', _, _, p', rfl, hp'⟩ := he
  have hpp := hp.pl (fun a _ cs h => h.pl)
  have hp1 := lr_one hp
  have hpp' := hp'.pl (fun a _ cs h => h.pl)
  have hp1' := lr_one hp'
  cases hok : okVtx v with
  | false =>
    have hk : standsB v e = false := by simp [standsB, hok]
    rw [hk]
    rw [hok] at c1
    refine call_V rfl rfl ?_
    repeat' first | ((with_reducible show Go.AM.V _ _ _ _ _ _); first | refine V_O rfl ?_ | refine V_cT rfl rfl ?_ | refine V_fA rfl rfl ?_) | ((with_reducible show Go.AM.VO _ _ _ _ _ _ _); first | refine O_cA rfl rfl c1 ?_ | refine O_step (build_sl hp1 _ _ rfl) ?_ | refine O_step rfl ?_ | refine O_stepL rfl ?_ | refine O_nil' ?_)
    rfl
  | true =>
    rw [hok] at c1
    by_cases ho : e.out = v.id
    · have d1 := ndec_is (p := e.out = v.id) ho
      by_cases hi : e.into = v.id
      · have d2 := ndec_is (p := e.into = v.id) hi
        have hk : standsB v e = okLnk v e := by simp [standsB, hok, ho, hi]
        rw [hk]
        have c3 := c2 hok ho hi
        cases hl : okLnk v e with
        | false =>
          rw [hl] at c3
          refine call_V rfl rfl ?_
          repeat' first | ((with_reducible show Go.AM.V _ _ _ _ _ _); first | refine V_O rfl ?_ | refine V_cF rfl rfl ?_ | refine V_fA rfl rfl ?_) | ((with_reducible show Go.AM.VO _ _ _ _ _ _ _); first | refine O_cA rfl rfl c1 ?_ | refine O_cA rfl rfl c3 ?_ | refine O_is d1 rfl ?_ | refine O_is d2 rfl ?_ | refine O_step (build_sl hp1 _ _ rfl) ?_ | refine O_step (build_sl5 hp1' _ _ rfl) ?_ | refine O_step rfl ?_ | refine O_stepL rfl ?_ | refine O_nil' ?_ | refine O_gT' rfl ?_)
          rfl
        | true =>
          rw [hl] at c3
          refine call_V rfl rfl ?_
          repeat' first | ((with_reducible show Go.AM.V _ _ _ _ _ _); first | refine V_O rfl ?_ | refine V_cF rfl rfl ?_ | refine V_fA rfl rfl ?_) | ((with_reducible show Go.AM.VO _ _ _ _ _ _ _); first | refine O_cA rfl rfl c1 ?_ | refine O_cA rfl rfl c3 ?_ | refine O_is d1 rfl ?_ | refine O_is d2 rfl ?_ | refine O_step (build_sl hp1 _ _ rfl) ?_ | refine O_step (build_sl5 hp1' _ _ rfl) ?_ | refine O_step rfl ?_ | refine O_stepL rfl ?_ | refine O_nil' ?_ | refine O_gT' rfl ?_)
          rfl
      · have d2 := ndec_not (p := e.into = v.id) hi
        have hk : standsB v e = false := by simp [standsB, hi]
        rw [hk]
        refine call_V rfl rfl ?_
        repeat' first | ((with_reducible show Go.AM.V _ _ _ _ _ _); first | refine V_O rfl ?_ | refine V_cT rfl rfl ?_ | refine V_cF rfl rfl ?_ | refine V_fA rfl rfl ?_) | ((with_reducible show Go.AM.VO _ _ _ _ _ _ _); first | refine O_cA rfl rfl c1 ?_ | refine O_is d1 rfl ?_ | refine O_is d2 rfl ?_ | refine O_step (build_sl hp1 _ _ rfl) ?_ | refine O_step rfl ?_ | refine O_stepL rfl ?_ | refine O_nil' ?_ | refine O_gT' rfl ?_)
        rfl
    · have d1 := ndec_not (p := e.out = v.id) ho
      have hk : standsB v e = false := by simp [standsB, ho]
      rw [hk]
      refine call_V rfl rfl ?_
      repeat' first | ((with_reducible show Go.AM.V _ _ _ _ _ _); first | refine V_O rfl ?_ | refine V_cT rfl rfl ?_ | refine V_cF rfl rfl ?_ | refine V_fA rfl rfl ?_) | ((with_reducible show Go.AM.VO _ _ _ _ _ _ _); first | refine O_cA rfl rfl c1 ?_ | refine O_is d1 rfl ?_ | refine O_step (build_sl hp1 _ _ rfl) ?_ | refine O_step rfl ?_ | refine O_stepL rfl ?_ | refine O_nil' ?_ | refine O_gF' rfl rfl ?_)
      rfl
end Go.Proofs.YtgdjnlopdpjnaaaGreatDoor
set_option linter.unusedVariables false
set_option linter.unusedSimpArgs false
namespace Go.Proofs.YtgdjnlopdpjnaaaGreatDoor
open Go Go.AM Go.RowKit
theorem build_val {v : Val} {cs : List PV} (hv : VC v cs) : ∀ (look : Nat → Option Tok) (e : EC) {k : Nat}, e.get k = some (.agg cs) → stepQ look e (.buildSl 4 [[.int .i64 0, .int .i64 0, .str [], .nilSl]] [(0, .t k)]) = some (.sl [cs] true) := fun look e k h => by
  obtain ⟨s, q, rfl, hq⟩ := hv.form2
  have h1 := hv.one
  simp only [List.all_cons, List.all_nil, Bool.and_true, Bool.and_eq_true] at h1
  have hq1 := h1.2.2.2
  have hq2 : q.isJunk = false := by cases q <;> first | rfl | cases hq1
  simp only [stepQ, partsOf, elsOf, Opd.get, h]
  simp [fillElems, allOf, PV.cells, PV.isJunk, hq1, hq2, PV.one]
end Go.Proofs.YtgdjnlopdpjnaaaGreatDoor
set_option linter.unusedVariables false
set_option linter.unusedSimpArgs false
namespace Go.Proofs.YtgdjnlopdpjnaaaGreatDoor
open Go Go.AM Go.RowKit
theorem may_vtx {n : Int} (h : idB n = true) : mayV 8 (vVtx n) = true := by
  simp only [idB, Bool.and_eq_true, decide_eq_true_eq] at h
  simp [mayV, vVtx, h.1, h.2]
theorem kB_of {v : Val} (hm : mayV 8 v = true) (h4 : v.kind ≠ 4) (h5 : v.kind ≠ 5) : kB v = formV v := by
  have hk : keyR [v] = .ok (formV v ++ []) := by
    simp only [keyR, hm, if_true, h4, h5, or_self, if_false]
    rfl
  simp [kB, keyE, keyB, hk]
theorem kB_vtx {n : Int} (h : idB n = true) : kB (vVtx n) = formV (vVtx n) := kB_of (may_vtx h) (by simp [vVtx, Val.kind]) (by simp [vVtx, Val.kind])
theorem good_vtx {n : Int} (h : idB n = true) : Good (vVtx n) := ⟨may_vtx h, by simp [vVtx, Val.kind], by simp [vVtx, Val.kind]⟩
theorem vtx_begins {a b : Int} (ha : idB a = true) (hb : idB b = true) (c : UInt8) (x : List UInt8) : decide ((c :: kB (vVtx a) ++ []) <+: (c :: kB (vVtx b) ++ x)) = decide (b = a) := by
  rw [decide_eq_decide]
  constructor
  · rintro ⟨t, ht⟩
    rw [kB_vtx ha, kB_vtx hb, List.append_nil] at ht
    simp only [List.cons_append, List.cons.injEq, true_and] at ht
    have h1 := take_key (good_vtx ha) (idB_true ha) t
    have h2 := take_key (good_vtx hb) (idB_true hb) x
    rw [ht, h2] at h1
    injection h1 with h1
    injection h1
  · rintro rfl
    exact ⟨x, by simp⟩
theorem D_loadV {T : Tb} {Q : Post} {k : List Fr} {ρ : EC} {st : St} {l : List POp} {kill : List Nat} {d : Option Nat} {a : Opd} {t off : Nat} {cs : List PV} {c : PV} (ha : a.get ρ = some (.ptr t off)) (hg : st.get t = some (.var cs)) (hc : cs[off]? = some c) (h : VD T Q l kill k (ρ.sets d c) st) : VD T Q (⟨d, none, .load 1 false a⟩ :: l) kill k ρ st :=
  D_step (by
    have hlt := (List.getElem?_eq_some_iff.1 hc).1
    simp only [stepQ, get1, ha, loadAt, behind, hg, Option.bind_some, slice?]
    rw [if_pos (by omega)]
    simpa using hc) h
theorem D_loadW {T : Tb} {Q : Post} {k : List Fr} {ρ : EC} {st : St} {l : List POp} {kill : List Nat} {d : Option Nat} {a : Opd} {t off n : Nat} {cs ds : List PV} (ha : a.get ρ = some (.ptr t off)) (hg : st.get t = some (.var cs)) (hl : off + n ≤ cs.length) (hd : (cs.drop off).take n = ds) (h : VD T Q l kill k (ρ.sets d (.agg ds)) st) : VD T Q (⟨d, none, .load n true a⟩ :: l) kill k ρ st :=
  D_step (by
    simp only [stepQ, get1, ha, loadAt, behind, hg, Option.bind_some, slice?]
    rw [if_pos hl]
    simp [hd]) h
theorem tog_loop {x : Lnk} {l : List Prp} {p q : PV} (hp : LR PpC p l) (hll : l.length ≤ 1000000) (hpm : ∀ y ∈ l, (putM y.val).length ≤ 100000000000000) {K : List Ent} (hq : LR EnC q K) {tail : List UInt8} (hK : ∀ (j : Nat) (y : Prp), l[j]? = some y → K[4 + j]? = some (propKey 7 y ++ tail, [])) {c0 c1 : List PV} :
    ∀ (rest pre : List Prp) (st : St), l = pre ++ rest → st.get 0 = some (.var c0) → st.get 1 = some (.var c1) → 1 < st.next →
    V T (PE fun y e st' => y = .exit 0 ∧ e = ecOf [(2, .ptr 0 0), (3, .ptr 1 0)] ∧ st'.get 0 = some (.var c0) ∧ st'.get 1 = some (.var c1) ∧ 1 < st'.next) [.code (.loop lp_ramblelaw11_KeysTogether_0)] .normal (ecOf [(2, .ptr 0 0), (3, .ptr 1 0), (5, q), (123, p), (124, .int .i64 l.length), (125, .int .i64 pre.length)]) st := by
  obtain ⟨_, _, hbig⟩ := hp.len
  have hqp := hq.pl (fun a _ cs h => h.pl)
  intro rest
  induction rest with
  | nil =>
    intro pre st hl h0 h1 hn
    have hlt : decide ((pre.length : Int) < l.length) = false := decide_eq_false (by subst hl; simp)
    refine V_unroll ?_
    repeat' first | ((with_reducible show Go.AM.V _ _ _ _ _ _); first | refine V_cH hlt rfl rfl ?_ | refine V_out [(2, .ptr 0 0), (3, .ptr 1 0)] rfl ⟨rfl, rfl, trivial⟩ ⟨rfl, rfl, h0, h1, hn⟩ | refine V_O rfl ?_) | ((with_reducible show Go.AM.VO _ _ _ _ _ _ _); first | refine O_step rfl ?_ | refine O_nil' ?_)
  | cons v rest ih =>
    intro pre st hl h0 h1 hn
    have hlt : decide ((pre.length : Int) < l.length) = true := decide_eq_true (by subst hl; simp; omega)
    have hpl : pre.length < l.length := by subst hl; simp
    have hvm := hpm v (by rw [hl]; simp)
    have hv : l[pre.length]? = some v := by subst hl; simp
    obtain ⟨cs, hat, hvc⟩ := hp.at (fun _ _ h => h.len5) hv
    have hcl := hvc.len5
    obtain ⟨hnl, vc, rfl, hvv⟩ := hvc
    have hw : IntKind.i64.wrap ((pre.length : Int) + 1) = ((pre ++ [v]).length : Int) := by rw [wrap_i64]; simp; omega
    have hw4 : PV.int .i64 (IntKind.i64.wrap (4 + (pre.length : Int))) = PV.int .i64 ((4 + pre.length : Nat) : Int) := int_is (by rw [wrap_i64]; omega)
    have hone : (PV.str v.name :: vc).all PV.one = true := List.all_eq_true.2 (fun c hc => by
      rcases List.mem_cons.1 hc with rfl | hc
      · exact rfl
      · exact List.all_eq_true.1 hvv.one c hc)
    obtain ⟨es, hat2, pk, pw, rfl, k1, k2⟩ := hq.at (fun _ _ h => h.len2) (hK _ _ hv)
    have hpk := k1.pl
    obtain ⟨qa, a1, a2⟩ := (propR (kind := 7) hnl (.inl ⟨rfl, rfl⟩)).call
    obtain ⟨qb, b1, b2⟩ := (propR (kind := 7) hnl (.inr ⟨v.val, vc, rfl, hvv, hvm, rfl⟩)).call
    have hpa := a2.pl
    have hpb := b2.pl
    have hvp := hvv.pl
    have ha := run_HasPrefix k1 a2
    have hb := run_HasPrefix k1 b2
    have hpref : propKey 7 v ++ tail = [6, UInt8.ofNat ((7 : Int) % 256).toNat] ++ kB (vStr v.name) ++ signB v.val ++ tail := rfl
    rw [decide_eq_true ⟨signB v.val ++ tail, by rw [hpref]; simp⟩] at ha
    rw [decide_eq_true ⟨tail, by rw [hpref]⟩] at hb
    have hbv := build_val hvv
    have hvl := hvv.len4
    have hlw : 1 + 4 ≤ (PV.str v.name :: vc).length := by simp [hvl]
    have hdw : ((PV.str v.name :: vc).drop 1).take 4 = vc := by
      rw [List.drop_one, List.tail_cons]
      exact List.take_of_length_le (by omega)
    have hst : storeAt (st.new (.var [.str [], .int .i64 0, .int .i64 0, .str [], .nilSl])) (.ptr st.next 0) (.agg (.str v.name :: vc)) = some ((st.new (.var [.str [], .int .i64 0, .int .i64 0, .str [], .nilSl])).put st.next (.var (.str v.name :: vc))) := storeAt_whole St.get_new (by rw [hcl]; rfl)
    have hvp2 := var_put (A := st) (z := [.str [], .int .i64 0, .int .i64 0, .str [], .nilSl]) (cs := .str v.name :: vc)
    generalize hS : (st.new (.var [.str [], .int .i64 0, .int .i64 0, .str [], .nilSl])).put st.next (.var (.str v.name :: vc)) = S1 at hst hvp2
    obtain ⟨hg, ho, hn1⟩ := hvp2
    have hi := ih (pre ++ [v]) S1 (by rw [hl]; simp) ((ho 0 (by omega)).trans h0) ((ho 1 (by omega)).trans h1) (by omega)
    refine V_unroll ?_
    repeat' first | ((with_reducible show Go.AM.V _ _ _ _ _ _); first | refine V_cHT hlt rfl rfl ?_ | refine V_re rfl hi ⟨rfl, rfl, rfl, rfl, rfl, some_int hw, trivial⟩ | refine V_O rfl ?_ | refine V_cF rfl rfl ?_ | refine V_D rfl ?_) | ((with_reducible show Go.AM.VO _ _ _ _ _ _ _); first | refine O_at rfl rfl hat ?_ | refine O_loadI rfl hcl ?_ | refine O_storeV rfl rfl hone hcl rfl hst ?_ | refine O_step rfl ?_ | refine O_stepL rfl ?_ | refine O_nil' ?_) | ((with_reducible show Go.AM.VD _ _ _ _ _ _ _); first | refine D_at rfl rfl hat2 ?_ | refine D_is hw4 rfl ?_ | refine D_loadV rfl hg rfl ?_ | refine D_loadW rfl hg hlw hdw ?_ | refine D_step (hbv _ _ rfl) ?_ | refine D_cA rfl rfl a1 ?_ | refine D_cA rfl rfl b1 ?_ | refine D_cA rfl rfl ha ?_ | refine D_cA rfl rfl hb ?_ | refine D_step rfl ?_ | refine D_nil' ?_ | refine D_gT' rfl ?_)
end Go.Proofs.YtgdjnlopdpjnaaaGreatDoor
set_option linter.unusedVariables false
set_option linter.unusedSimpArgs false
namespace Go.Proofs.YtgdjnlopdpjnaaaGreatDoor
open Go Go.AM Go.RowKit
theorem lnkK_ok {x : Lnk} (h1 : idB x.id = true) (h2 : idB x.out = true) (h3 : idB x.into = true) : lnkK x = (elemK (vEdg x.id), numK x.out ++ numK x.into ++ textK x.label ++ propsK x.props) :: (besideK 3 x.out x.label ++ kB (vEdg x.id), numK x.into) :: (besideK 4 x.into x.label ++ kB (vEdg x.id), numK x.out) :: idxK (vEdg x.id) x.label x.props := by simp [lnkK, h1, h2, h3]
theorem lnkK_len {x : Lnk} : (lnkK x = [] ) ∨ ((lnkK x).length = 4 + x.props.length ∧ idB x.id = true ∧ idB x.out = true ∧ idB x.into = true) := by
  by_cases h : idB x.id = true ∧ idB x.out = true ∧ idB x.into = true
  · right
    refine ⟨?_, h⟩
    rw [lnkK_ok h.1 h.2.1 h.2.2]
    simp [idxK]
    omega
  · left
    simp only [lnkK, if_neg h]
def BdK (label : List UInt8) (l : List Prp) : Prop := (∀ y ∈ l, (putM y.val).length ≤ 100000000000000) ∧ (textK label).length + (propsK l).length ≤ 10000000000 ∧ label.length ≤ 1000000000000 ∧ l.length ≤ 100000000000
theorem edge_of {x : Lnk} {cs : List PV} (hx : LkC x cs) (hb : BdK x.label x.props) : ∃ q, T.R (.call n_keys_Edge [.agg cs] q) ∧ LR EnC q (lnkK x) := run_Edge hx hb.1 hb.2.1 hb.2.2.1 hb.2.2.2
set_option maxHeartbeats 16000000 in
theorem run_Together {x o : Lnk} {cs ds : List PV} (hx : LkC x cs) (ho : LkC o ds) (bx : BdK x.label x.props) (bo : BdK o.label o.props) : T.R (.call n_ramblelaw11_KeysTogether [.agg cs, .agg ds] (.bool true)) := by
  obtain ⟨q, E1, E2⟩ := edge_of hx bx
  obtain ⟨q2, F1, F2⟩ := edge_of ho bo
  have hbg := run_kBegun
  obtain ⟨hid, hlab, hout, hinto, p, rfl, hp⟩ := hx
  obtain ⟨hid', hlab', hout', hinto', p', rfl, hp'⟩ := ho
  have hpp := hp.pl (fun a _ cs h => h.pl)
  have hp1 := lr_one hp
  have hpp' := hp'.pl (fun a _ cs h => h.pl)
  have hst := run_stands (v := ⟨x.out, x.label, []⟩) (cs := [.int .i64 x.out, .str x.label, .nilSl]) ⟨hout, hlab, .nilSl, rfl, .inl ⟨rfl, rfl⟩⟩ (e := ⟨x.id, x.label, x.out, x.out, x.props⟩) (ds := [.int .i64 x.id, .str x.label, .int .i64 x.out, .int .i64 x.out, p]) ⟨hid, hlab, hout, hout, p, rfl, hp⟩
  have hbuild : ∀ (look : Nat → Option Tok) (e : EC), e.get 18 = some (.int .i64 x.id) → e.get 20 = some (.str x.label) → e.get 22 = some (.int .i64 x.out) → e.get 24 = some (.int .i64 x.out) → e.get 26 = some p → stepQ look e (.build [.int .i64 0, .str [], .int .i64 0, .int .i64 0, .nilSl] [(0, (1, .t 18)), (1, (1, .t 20)), (2, (1, .t 22)), (3, (1, .t 24)), (4, (1, .t 26))]) = some (.agg [.int .i64 x.id, .str x.label, .int .i64 x.out, .int .i64 x.out, p]) := fun look e h1 h2 h3 h4 h5 => by
    rcases hp with ⟨rfl, _⟩ | ⟨xs, f, rfl, _⟩ <;> (simp only [stepQ, partsOf, elsOf, Opd.get, h1, h2, h3, h4, h5]; rfl)
  cases hs : standsB ⟨x.out, x.label, []⟩ ⟨x.id, x.label, x.out, x.out, x.props⟩ with
  | false =>
    rw [hs] at hst
    refine call_V rfl rfl ?_
    repeat' first | ((with_reducible show Go.AM.V _ _ _ _ _ _); first | refine V_O rfl ?_ | refine V_cT rfl rfl ?_ | refine V_fA rfl rfl ?_) | ((with_reducible show Go.AM.VO _ _ _ _ _ _ _); first | refine O_cA rfl rfl hbg ?_ | refine O_cA rfl rfl hst ?_ | refine O_step (hbuild _ _ rfl rfl rfl rfl rfl) ?_ | refine O_step rfl ?_ | refine O_stepL rfl ?_ | refine O_nil' ?_ | refine O_gT' rfl ?_ | refine O_gF' rfl rfl ?_)
    rfl
  | true =>
    rw [hs] at hst
    rcases idB_cases (n := x.into) with ⟨h1, h2⟩ | ⟨h1, h3, h2⟩ | ⟨h1, h3, h2⟩
    · have d1 := dec_is (p := x.into < 1) h1
      refine call_V rfl rfl ?_
      repeat' first | ((with_reducible show Go.AM.V _ _ _ _ _ _); first | refine V_O rfl ?_ | refine V_cT rfl rfl ?_ | refine V_fA rfl rfl ?_) | ((with_reducible show Go.AM.VO _ _ _ _ _ _ _); first | refine O_cA rfl rfl hbg ?_ | refine O_cA rfl rfl hst ?_ | refine O_step (hbuild _ _ rfl rfl rfl rfl rfl) ?_ | refine O_is d1 rfl ?_ | refine O_step rfl ?_ | refine O_stepL rfl ?_ | refine O_nil' ?_ | refine O_gT' rfl ?_ | refine O_gF' rfl rfl ?_)
      rfl
    · have d1 := dec_not (p := x.into < 1) h1
      have d2 := dec_is (p := x.into > 281474976710656) h3
      refine call_V rfl rfl ?_
      repeat' first | ((with_reducible show Go.AM.V _ _ _ _ _ _); first | refine V_O rfl ?_ | refine V_cT rfl rfl ?_ | refine V_fA rfl rfl ?_) | ((with_reducible show Go.AM.VO _ _ _ _ _ _ _); first | refine O_cA rfl rfl hbg ?_ | refine O_cA rfl rfl hst ?_ | refine O_step (hbuild _ _ rfl rfl rfl rfl rfl) ?_ | refine O_is d1 rfl ?_ | refine O_is d2 rfl ?_ | refine O_step rfl ?_ | refine O_stepL rfl ?_ | refine O_nil' ?_ | refine O_gT' rfl ?_)
      rfl
    · have d1 := dec_not (p := x.into < 1) h1
      have d2 := dec_not (p := x.into > 281474976710656) h3
      simp only [standsB, okVtx, okLnk, Bool.and_eq_true, decide_eq_true_eq] at hs
      obtain ⟨⟨⟨⟨⟨i2, nl⟩, _⟩, _⟩, _⟩, ⟨⟨⟨i1, _⟩, po⟩, _⟩⟩ := hs
      have hl16 : x.props.length ≤ 16 := by
        simp only [propsOk, Bool.and_eq_true, decide_eq_true_eq] at po
        exact po.1
      have hK := lnkK_ok i1 i2 h2
      have hKl : (lnkK x).length = 4 + x.props.length := by rw [hK]; simp [idxK]; omega
      obtain ⟨e1, e2, _⟩ := E2.len
      rw [hKl] at e1
      have hqp := E2.pl (fun a _ cs h => h.pl)
      obtain ⟨f1, f2, _⟩ := hp.len
      have hw4 : PV.int .i64 (IntKind.i64.wrap (4 + (x.props.length : Int))) = PV.int .i64 ((4 + x.props.length : Nat) : Int) := int_is (by rw [wrap_i64]; omega)
      have hne := ndec_is (p := ((4 + x.props.length : Nat) : Int) = ((4 + x.props.length : Nat) : Int)) rfl
      obtain ⟨es1, at1, k1, w1, rfl, b1, _⟩ := E2.at (fun _ _ h => h.len2) (j := 1) (a := (besideK 3 x.out x.label ++ kB (vEdg x.id), numK x.into)) (by rw [hK]; rfl)
      obtain ⟨es2, at2, k2, w2, rfl, b2, _⟩ := E2.at (fun _ _ h => h.len2) (j := 2) (a := (besideK 4 x.into x.label ++ kB (vEdg x.id), numK x.out)) (by rw [hK]; rfl)
      obtain ⟨es3, at3, k3, w3, rfl, b3, _⟩ := E2.at (fun _ _ h => h.len2) (j := 3) (a := (labelK 7 x.label ++ kB (vEdg x.id), [])) (by rw [hK]; rfl)
      have pk1 := b1.pl
      have pk2 := b2.pl
      have pk3 := b3.pl
      have klb := kB_len (vStr x.label)
      obtain ⟨qo0, o01, o02⟩ := (outR hout (.inl ⟨rfl, rfl⟩) (by simp)).call
      obtain ⟨qo1, o11, o12⟩ := (outR hout (.inr ⟨x.label, rfl, hlab, rfl⟩) (by omega)).call
      obtain ⟨qi0, i01, i02⟩ := (inR hinto (.inl ⟨rfl, rfl⟩) (by simp)).call
      obtain ⟨qi1, i11, i12⟩ := (inR hinto (.inr ⟨x.label, rfl, hlab, rfl⟩) (by omega)).call
      obtain ⟨ql1, l11, l12⟩ := (labelR (kind := 7) (.inr ⟨x.label, rfl, hlab, rfl⟩) (by omega)).call
      obtain ⟨ql0, l01, l02⟩ := (labelR (kind := 7) (.inl ⟨rfl, rfl⟩) (by simp)).call
      have po0 := o02.pl
      have po1 := o12.pl
      have pi0 := i02.pl
      have pi1 := i12.pl
      have pl1 := l12.pl
      have pl0 := l02.pl
      have t1 := run_HasPrefix b1 o02
      have t2 := run_HasPrefix b1 o12
      have t3 := run_HasPrefix b2 i02
      have t4 := run_HasPrefix b2 i12
      have t5 := run_HasPrefix b3 l12
      have t6 := run_HasPrefix b3 l02
      rw [decide_eq_true ⟨kB (vStr x.label) ++ kB (vEdg x.id), by simp [besideK]⟩] at t1
      rw [decide_eq_true ⟨kB (vEdg x.id), by simp [besideK]⟩] at t2
      rw [decide_eq_true ⟨kB (vStr x.label) ++ kB (vEdg x.id), by simp [besideK]⟩] at t3
      rw [decide_eq_true ⟨kB (vEdg x.id), by simp [besideK]⟩] at t4
      rw [decide_eq_true ⟨kB (vEdg x.id), by simp [labelK]⟩] at t5
      rw [decide_eq_true ⟨kB (vStr x.label) ++ kB (vEdg x.id), by simp [labelK]⟩] at t6
      have hlp := tog_loop (x := x) hp (by omega) bx.1 E2 (tail := kB (vEdg x.id)) (fun j y hj => by
        rw [hK]
        rw [show 4 + j = j + 1 + 1 + 1 + 1 by omega]
        simp only [idxK, List.getElem?_cons_succ, List.getElem?_map, hj]
        rfl) (c0 := [.int .i64 x.id, .str x.label, .int .i64 x.out, .int .i64 x.into, p]) (c1 := [.int .i64 o.id, .str o.label, .int .i64 o.out, .int .i64 o.into, p']) x.props [] ((emptySt.new (.var [.int .i64 x.id, .str x.label, .int .i64 x.out, .int .i64 x.into, p])).new (.var [.int .i64 o.id, .str o.label, .int .i64 o.out, .int .i64 o.into, p'])) rfl rfl rfl (by show 1 < 0 + 1 + 1; omega)
      refine call_V rfl rfl ?_
      repeat' first | ((with_reducible show Go.AM.V _ _ _ _ _ _); first | refine V_cutTo rfl hlp ⟨rfl, rfl, rfl, rfl, rfl, rfl, trivial⟩ ?_ | refine V_O rfl ?_ | refine V_cF rfl rfl ?_ | refine V_D rfl ?_) | ((with_reducible show Go.AM.VO _ _ _ _ _ _ _); first | refine O_cA rfl rfl hbg ?_ | refine O_cA rfl rfl hst ?_ | refine O_cA rfl rfl E1 ?_ | refine O_step (hbuild _ _ rfl rfl rfl rfl rfl) ?_ | refine O_is d1 rfl ?_ | refine O_is d2 rfl ?_ | refine O_lenO rfl f1 f2 ?_ | refine O_step rfl ?_ | refine O_stepL rfl ?_ | refine O_nil' ?_ | refine O_gT' rfl ?_) | ((with_reducible show Go.AM.VD _ _ _ _ _ _ _); first | refine D_lenO rfl e1 e2 ?_ | refine D_lenO rfl f1 f2 ?_ | refine D_is hw4 rfl ?_ | refine D_is hne rfl ?_ | refine D_at rfl rfl at1 ?_ | refine D_at rfl rfl at2 ?_ | refine D_at rfl rfl at3 ?_ | refine D_cA rfl rfl o01 ?_ | refine D_cA rfl rfl o11 ?_ | refine D_cA rfl rfl i01 ?_ | refine D_cA rfl rfl i11 ?_ | refine D_cA rfl rfl l01 ?_ | refine D_cA rfl rfl l11 ?_ | refine D_cA rfl rfl t1 ?_ | refine D_cA rfl rfl t2 ?_ | refine D_cA rfl rfl t3 ?_ | refine D_cA rfl rfl t4 ?_ | refine D_cA rfl rfl t5 ?_ | refine D_cA rfl rfl t6 ?_ | refine D_step rfl ?_ | refine D_nil' ?_ | refine D_gT' rfl ?_)
      rintro y e st' ⟨rfl, rfl, h0', h1', hn'⟩
      rcases lnkK_len (x := o) with hnil | ⟨hol, j1, j2, j3⟩
      · rw [hnil] at F2
        obtain ⟨g1, g2, _⟩ := F2.len
        have hqp2 := F2.pl (fun a _ cs h => h.pl)
        have d3 := dec_is (p := ((([] : List Ent).length : Nat) : Int) < 4) (by decide)
        repeat' first | ((with_reducible show Go.AM.V _ _ _ _ _ _); first | refine V_O rfl ?_ | refine V_cT rfl rfl ?_ | refine V_fA rfl rfl ?_) | ((with_reducible show Go.AM.VO _ _ _ _ _ _ _); first | refine O_loadP rfl h1' rfl ?_ | refine O_cA rfl rfl F1 ?_ | refine O_lenO rfl g1 g2 ?_ | refine O_is d3 rfl ?_ | refine O_step rfl ?_ | refine O_nil' ?_)
        rfl
      · obtain ⟨g1, g2, _⟩ := F2.len
        rw [hol] at g1
        have hqp2 := F2.pl (fun a _ cs h => h.pl)
        have hK2 := lnkK_ok j1 j2 j3
        have d3 := dec_not (p := ((4 + o.props.length : Nat) : Int) < 4) (by omega)
        obtain ⟨es4, at4, k4, w4, rfl, b4, _⟩ := F2.at (fun _ _ h => h.len2) (j := 1) (a := (besideK 3 o.out o.label ++ kB (vEdg o.id), numK o.into)) (by rw [hK2]; rfl)
        obtain ⟨es5, at5, k5, w5, rfl, b5, _⟩ := F2.at (fun _ _ h => h.len2) (j := 2) (a := (besideK 4 o.into o.label ++ kB (vEdg o.id), numK o.out)) (by rw [hK2]; rfl)
        have pk4 := b4.pl
        have pk5 := b5.pl
        have v1 := run_HasPrefix b4 o02
        have v2 := run_HasPrefix b5 i02
        have r1 := vtx_begins i2 j2 3 (kB (vStr o.label) ++ kB (vEdg o.id))
        have r2 := vtx_begins h2 j3 4 (kB (vStr o.label) ++ kB (vEdg o.id))
        rw [show besideK 3 o.out o.label ++ kB (vEdg o.id) = 3 :: kB (vVtx o.out) ++ (kB (vStr o.label) ++ kB (vEdg o.id)) by simp [besideK], r1] at v1
        rw [show besideK 4 o.into o.label ++ kB (vEdg o.id) = 4 :: kB (vVtx o.into) ++ (kB (vStr o.label) ++ kB (vEdg o.id)) by simp [besideK], r2] at v2
        by_cases c1 : o.out = x.out
        · have d4 := dec_is (p := o.out = x.out) c1
          rw [decide_eq_true c1] at v1
          by_cases c2 : o.into = x.into
          · have d5 := dec_is (p := o.into = x.into) c2
            rw [decide_eq_true c2] at v2
            repeat' first | ((with_reducible show Go.AM.V _ _ _ _ _ _); first | refine V_O rfl ?_ | refine V_cF rfl rfl ?_ | refine V_fA rfl rfl ?_ | refine V_D rfl ?_) | ((with_reducible show Go.AM.VO _ _ _ _ _ _ _); first | refine O_loadP rfl h1' rfl ?_ | refine O_cA rfl rfl F1 ?_ | refine O_lenO rfl g1 g2 ?_ | refine O_is d3 rfl ?_ | refine O_step rfl ?_ | refine O_nil' ?_) | ((with_reducible show Go.AM.VD _ _ _ _ _ _ _); first | refine D_at rfl rfl at4 ?_ | refine D_at rfl rfl at5 ?_ | refine D_loadV rfl h0' rfl ?_ | refine D_loadV rfl h1' rfl ?_ | refine D_cA rfl rfl o01 ?_ | refine D_cA rfl rfl i01 ?_ | refine D_cA rfl rfl v1 ?_ | refine D_cA rfl rfl v2 ?_ | refine D_is d4 rfl ?_ | refine D_is d5 rfl ?_ | refine D_step rfl ?_ | refine D_nil' ?_ | refine D_gT' rfl ?_)
            rfl
          · have d5 := dec_not (p := o.into = x.into) c2
            rw [decide_eq_false c2] at v2
            repeat' first | ((with_reducible show Go.AM.V _ _ _ _ _ _); first | refine V_O rfl ?_ | refine V_cF rfl rfl ?_ | refine V_fA rfl rfl ?_ | refine V_D rfl ?_) | ((with_reducible show Go.AM.VO _ _ _ _ _ _ _); first | refine O_loadP rfl h1' rfl ?_ | refine O_cA rfl rfl F1 ?_ | refine O_lenO rfl g1 g2 ?_ | refine O_is d3 rfl ?_ | refine O_step rfl ?_ | refine O_nil' ?_) | ((with_reducible show Go.AM.VD _ _ _ _ _ _ _); first | refine D_at rfl rfl at4 ?_ | refine D_at rfl rfl at5 ?_ | refine D_loadV rfl h0' rfl ?_ | refine D_loadV rfl h1' rfl ?_ | refine D_cA rfl rfl o01 ?_ | refine D_cA rfl rfl i01 ?_ | refine D_cA rfl rfl v1 ?_ | refine D_cA rfl rfl v2 ?_ | refine D_is d4 rfl ?_ | refine D_is d5 rfl ?_ | refine D_step rfl ?_ | refine D_nil' ?_ | refine D_gT' rfl ?_)
            rfl
        · have d4 := dec_not (p := o.out = x.out) c1
          rw [decide_eq_false c1] at v1
          by_cases c2 : o.into = x.into
          · have d5 := dec_is (p := o.into = x.into) c2
            rw [decide_eq_true c2] at v2
            repeat' first | ((with_reducible show Go.AM.V _ _ _ _ _ _); first | refine V_O rfl ?_ | refine V_cF rfl rfl ?_ | refine V_fA rfl rfl ?_ | refine V_D rfl ?_) | ((with_reducible show Go.AM.VO _ _ _ _ _ _ _); first | refine O_loadP rfl h1' rfl ?_ | refine O_cA rfl rfl F1 ?_ | refine O_lenO rfl g1 g2 ?_ | refine O_is d3 rfl ?_ | refine O_step rfl ?_ | refine O_nil' ?_) | ((with_reducible show Go.AM.VD _ _ _ _ _ _ _); first | refine D_at rfl rfl at4 ?_ | refine D_at rfl rfl at5 ?_ | refine D_loadV rfl h0' rfl ?_ | refine D_loadV rfl h1' rfl ?_ | refine D_cA rfl rfl o01 ?_ | refine D_cA rfl rfl i01 ?_ | refine D_cA rfl rfl v1 ?_ | refine D_cA rfl rfl v2 ?_ | refine D_is d4 rfl ?_ | refine D_is d5 rfl ?_ | refine D_step rfl ?_ | refine D_nil' ?_ | refine D_gT' rfl ?_)
            rfl
          · have d5 := dec_not (p := o.into = x.into) c2
            rw [decide_eq_false c2] at v2
            repeat' first | ((with_reducible show Go.AM.V _ _ _ _ _ _); first | refine V_O rfl ?_ | refine V_cF rfl rfl ?_ | refine V_fA rfl rfl ?_ | refine V_D rfl ?_) | ((with_reducible show Go.AM.VO _ _ _ _ _ _ _); first | refine O_loadP rfl h1' rfl ?_ | refine O_cA rfl rfl F1 ?_ | refine O_lenO rfl g1 g2 ?_ | refine O_is d3 rfl ?_ | refine O_step rfl ?_ | refine O_nil' ?_) | ((with_reducible show Go.AM.VD _ _ _ _ _ _ _); first | refine D_at rfl rfl at4 ?_ | refine D_at rfl rfl at5 ?_ | refine D_loadV rfl h0' rfl ?_ | refine D_loadV rfl h1' rfl ?_ | refine D_cA rfl rfl o01 ?_ | refine D_cA rfl rfl i01 ?_ | refine D_cA rfl rfl v1 ?_ | refine D_cA rfl rfl v2 ?_ | refine D_is d4 rfl ?_ | refine D_is d5 rfl ?_ | refine D_step rfl ?_ | refine D_nil' ?_ | refine D_gT' rfl ?_)
            rfl
end Go.Proofs.YtgdjnlopdpjnaaaGreatDoor

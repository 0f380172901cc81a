/- codec.Parse; codec.Put of any value that may be; CodecBack, over plain values. · Vertices, edges, entries: what they are over plain cells; their entries. · keys: values made, numbers laid, elements laid behind bytes. · keys: texts and properties laid. · keys: properties laid; with what keys begin. · keys: signs, what an element's property's keys begin with, an element's key. · keys.indexes: rows of entries whose cells are one's own. -/
import Derived.Test.YtgdjnlopdpjnaaaGreatDoorReadCToBackK
import Derived.Test.YtgdjnlopdpjnaaaGreatDoorAmZ
import Derived.Test.YtgdjnlopdpjnaaaGreatDoorBytesToCodB
import Derived.Test.YtgdjnlopdpjnaaaGreatDoorPutVToReadB
set_option linter.unusedVariables false
set_option linter.unusedSimpArgs false
namespace Go.Proofs.YtgdjnlopdpjnaaaGreatDoor
open Go Go.AM Go.RowKit
theorem run_PutMay {v : Val} {cs : List PV} (hv : VC v cs) (hm : Z21 8 v = true) (hlen : (putV v).length ≤ 100000000000000) : T.R (.call n_codec_Put [.nilSl, .agg cs] (.sl (Z00 (putV v)) false)) := by
  have hchk := run_Check hv
  have hc0 : chk v = 0 := by simp [chk, hm]
  rw [hc0] at hchk
  have plc := hv.pl
  have hA0 : (emptySt.new (.var cs)).get 0 = some (.var cs) := rfl
  have hnxt : (emptySt.new (.var cs)).next = 1 := rfl
  obtain ⟨b', st', h1, h2, h3⟩ := put_all hv ⟨1, 1, (emptySt.new (.var cs)).toks⟩ .nilSl [] rfl (.inl ⟨rfl, rfl⟩) (by simpa using hlen)
  have hB0 : (⟨0, st'.next, st'.toks⟩ : St).get 0 = some (.var cs) := (h3.2.2.2 0 (by show 0 < 1; omega) (by simp [Z15])).trans rfl
  rw [List.nil_append] at h2
  refine Z0c rfl rfl ?_
  repeat' first | ((with_reducible show V _ _ _ _ _ _); first | refine V_M 3 ⟨0, st'.next, st'.toks⟩ rfl ?_ | refine V_O rfl ?_ | refine Z1e rfl rfl ?_) | ((with_reducible show VO _ _ _ _ _ _ _); first | refine Z1p rfl hA0 hv.len4 ?_ | refine Z0u rfl rfl hchk ?_ | refine Z02 rfl ?_ | refine Z05 rfl ?_ | refine Z03 ?_) | ((with_reducible show VM _ _ _ _ _ _ _ _ _ _ _); first | refine M_call rfl (.inl rfl) rfl rfl (Z1a (by (repeat' (first | exact Pl.int _ _ | exact Pl.bool _ | exact Pl.str _ | exact Pl.nilSl | exact Z1d | refine Z0m ?_ ?_ | refine Pl.tuple _ ?_ | refine Pl.agg _ ?_ | refine Pl.func _ _ ?_ | assumption | refine Pl.iptr _ _ ?_ | exact Z1h | refine Z11 ?_ ?_ | refine Pl.sl _ _ ?_)); first | done | fail)) (Z1a (by (repeat' (first | exact Pl.int _ _ | exact Pl.bool _ | exact Pl.str _ | exact Pl.nilSl | exact Z1d | refine Z0m ?_ ?_ | refine Pl.tuple _ ?_ | refine Pl.agg _ ?_ | refine Pl.func _ _ ?_ | assumption | refine Pl.iptr _ _ ?_ | exact Z1h | refine Z11 ?_ ?_ | refine Pl.sl _ _ ?_)); first | done | fail)) run_CloneNil ?_ | refine M_loadP rfl (.inl rfl) rfl hA0 hB0 hv.len4 ?_ | refine M_rawAll h1 h3.1 rfl rfl rfl rfl ?_ | refine M_step rfl (.inl rfl) rfl rfl ?_ | refine M_step rfl (.inr rfl) rfl rfl ?_ | refine M_nil ?_)
  rcases h2 with ⟨_, h⟩ | ⟨t, g, rfl, hg, hlt⟩
  · exact absurd h (by simp [Z00, putV_pos])
  · exact Z2c rfl rfl (Z2h (lv := true) (es := Z00 (putV v)) hg (.inl rfl) rfl (Z2u _)) rfl
mutual
def sizeV : Val → Nat
  | .mk _ _ s l => 1 + s.length + sizeVs l
def sizeVs : List Val → Nat
  | [] => 0
  | v :: l => sizeV v + sizeVs l
end
theorem Z1r : ∀ n u, (putL n u).length ≤ n + 1
  | 0, u => by simp [putL]
  | n + 1, u => by
    have := Z1r n (u / 128)
    simp only [putL]
    split
    · simp
    · simp; omega
mutual
theorem putV_size : ∀ v : Val, (putV v).length ≤ 11 * sizeV v
  | .mk k n s l => by
    have h1 := Z1r 9 (zigN n)
    have h2 := Z1r 9 (n % 18446744073709551616).toNat
    have h3 := Z1r 9 s.length
    have h4 := Z1r 9 l.length
    have h5 := putVs_size l
    simp only [putV, sizeV]
    split
    · simp only [List.length_cons]; omega
    · split
      · simp only [List.length_cons]; omega
      · split
        · simp; omega
        · split
          · simp only [List.length_cons, List.length_append]; omega
          · simp only [List.length_cons, List.length_append]; omega
theorem putVs_size : ∀ l : List Val, (putVs l).length ≤ 11 * sizeVs l
  | [] => by simp [putVs]
  | v :: l => by
    have h1 := putV_size v
    have h2 := putVs_size l
    simp only [putVs, sizeVs, List.length_append]
    omega
end
end Go.Proofs.YtgdjnlopdpjnaaaGreatDoor
set_option linter.unusedVariables false
set_option linter.unusedSimpArgs false
namespace Go.Proofs.YtgdjnlopdpjnaaaGreatDoor
open Go Go.AM Go.RowKit
structure Prp where
  name : List UInt8
  val : Val
structure Vtx where
  id : Int
  label : List UInt8
  props : List Prp
structure Lnk where
  id : Int
  label : List UInt8
  out : Int
  into : Int
  props : List Prp
def PpC (x : Prp) (cs : List PV) : Prop := x.name.length ≤ 140737488355328 ∧ ∃ vc, cs = .str x.name :: vc ∧ VC x.val vc
def VtC (x : Vtx) (cs : List PV) : Prop := I64 x.id ∧ x.label.length ≤ 140737488355328 ∧ ∃ p, cs = [.int .i64 x.id, .str x.label, p] ∧ LR PpC p x.props
def LkC (x : Lnk) (cs : List PV) : Prop := I64 x.id ∧ x.label.length ≤ 140737488355328 ∧ I64 x.out ∧ I64 x.into ∧ ∃ p, cs = [.int .i64 x.id, .str x.label, .int .i64 x.out, .int .i64 x.into, p] ∧ LR PpC p x.props
def EnC (x : List UInt8 × List UInt8) (cs : List PV) : Prop := ∃ p q, cs = [p, q] ∧ BV p x.1 ∧ BV q x.2
theorem PpC.pl {x : Prp} {cs : List PV} (h : PpC x cs) : ∀ c ∈ cs, Pl c := by
  obtain ⟨_, vc, rfl, hv⟩ := h
  exact Z0m (.str _) hv.pl
theorem PpC.len5 {x : Prp} {cs : List PV} (h : PpC x cs) : cs.length = 5 := by
  obtain ⟨_, vc, rfl, hv⟩ := h
  simp [hv.len4]
theorem EnC.pl {x : List UInt8 × List UInt8} {cs : List PV} (h : EnC x cs) : ∀ c ∈ cs, Pl c := by
  obtain ⟨p, q, rfl, h1, h2⟩ := h
  exact Z0m h1.pl (Z0m h2.pl Z1d)
theorem EnC.len2 {x : List UInt8 × List UInt8} {cs : List PV} (h : EnC x cs) : cs.length = 2 := by
  obtain ⟨p, q, rfl, _⟩ := h
  rfl
def vStr (s : List UInt8) : Val := .mk 2 0 s []
def vVtx (n : Int) : Val := .mk 6 n [] []
def vEdg (n : Int) : Val := .mk 7 n [] []
def kB (v : Val) : List UInt8 := if keyE [v] = 0 then keyB [v] else []
def putM (v : Val) : List UInt8 := if Z21 8 v = true then putV v else []
def Z2g (n : Int) : List UInt8 := putL 9 (if 0 < n then n.toNat else 0)
def Z2s (s : List UInt8) : List UInt8 := Z2g s.length ++ s
def propK (x : Prp) : List UInt8 := Z2s x.name ++ putM x.val
def Z20 (l : List Prp) : List UInt8 := Z2g l.length ++ l.flatMap propK
def signB (v : Val) : List UInt8 :=
  let b := if v.kind = 4 ∨ v.kind = 5 then putM v else kB v
  UInt8.ofNat (b.take 40).length :: b.take 40
def labelK (kind : Int) (s : List UInt8) : List UInt8 := [5, UInt8.ofNat (kind % 256).toNat] ++ kB (vStr s)
def propKey (kind : Int) (x : Prp) : List UInt8 := [6, UInt8.ofNat (kind % 256).toNat] ++ kB (vStr x.name) ++ signB x.val
def idxK (elem : Val) (s : List UInt8) (l : List Prp) : List (List UInt8 × List UInt8) :=
  (labelK elem.kind s ++ kB elem, []) :: l.map fun x => (propKey elem.kind x ++ kB elem, [])
def idB (n : Int) : Bool := decide (1 ≤ n) && decide (n ≤ 281474976710656)
def Z35 (v : Val) : List UInt8 := if Z21 8 v = true then (if v.kind = 6 then 1 :: kB v else if v.kind = 7 then 2 :: kB v else []) else []
def vtxK (x : Vtx) : List (List UInt8 × List UInt8) := if idB x.id = true then (Z35 (vVtx x.id), Z2s x.label ++ Z20 x.props) :: idxK (vVtx x.id) x.label x.props else []
def Z1v (k : UInt8) (v : Int) (s : List UInt8) : List UInt8 := k :: kB (vVtx v) ++ kB (vStr s)
def lnkK (x : Lnk) : List (List UInt8 × List UInt8) :=
  if idB x.id = true ∧ idB x.out = true ∧ idB x.into = true then
    (Z35 (vEdg x.id), Z2g x.out ++ Z2g x.into ++ Z2s x.label ++ Z20 x.props) :: (Z1v 3 x.out x.label ++ kB (vEdg x.id), Z2g x.into) :: (Z1v 4 x.into x.label ++ kB (vEdg x.id), Z2g x.out) :: idxK (vEdg x.id) x.label x.props
  else []
end Go.Proofs.YtgdjnlopdpjnaaaGreatDoor
set_option linter.unusedVariables false
set_option linter.unusedSimpArgs false
namespace Go.Proofs.YtgdjnlopdpjnaaaGreatDoor
open Go Go.AM Go.RowKit
theorem load_aggK {sz : Nat} {cs : List PV} (h : cs.length = sz) (look : Nat → Option Tok) : loadAt look sz true (.iptr cs 0) = some (.agg cs) := by
  subst h
  simp [loadAt, behind, slice?]
theorem O_loadI {Q : Post} {k : List Fr} {l : List POp} {kill : List Nat} {ρ : EC} {st : St} {d : Option Nat} {a : Opd} {n : Nat} {cs : List PV} (ha : a.get ρ = some (.iptr cs 0)) (hl : cs.length = n) (h : VO T Q l kill k (ρ.sets d (.agg cs)) st) : VO T Q (⟨d, none, .load n true a⟩ :: l) kill k ρ st :=
  Z02 (by simp only [Z0v, get1, ha]; exact load_aggK hl _) h
theorem run_VVertex (n : Int) : T.R (.call n_value_Vertex [.int .i64 n] (.agg [.int .i64 6, .int .i64 n, .str [], .nilSl])) := by
  refine Z0c rfl rfl ?_
  repeat' first | refine V_O rfl ?_ | refine Z1t rfl rfl ?_ | ((with_reducible show VO _ _ _ _ _ _ _); first | refine Z05 rfl ?_ | refine Z02 rfl ?_ | refine Z03 ?_)
  rfl
theorem run_VEdge (n : Int) : T.R (.call n_value_Edge [.int .i64 n] (.agg [.int .i64 7, .int .i64 n, .str [], .nilSl])) := by
  refine Z0c rfl rfl ?_
  repeat' first | refine V_O rfl ?_ | refine Z1t rfl rfl ?_ | ((with_reducible show VO _ _ _ _ _ _ _); first | refine Z05 rfl ?_ | refine Z02 rfl ?_ | refine Z03 ?_)
  rfl
theorem run_VStr (s : List UInt8) : T.R (.call n_value_Str [.str s] (.agg [.int .i64 2, .int .i64 0, .str s, .nilSl])) := by
  refine Z0c rfl rfl ?_
  repeat' first | refine V_O rfl ?_ | refine Z1t rfl rfl ?_ | ((with_reducible show VO _ _ _ _ _ _ _); first | refine Z05 rfl ?_ | refine Z02 rfl ?_ | refine Z03 ?_)
  rfl
theorem vc_vtx {n : Int} (h : I64 n) : VC (vVtx n) [.int .i64 6, .int .i64 n, .str [], .nilSl] := .nil _ _ _ (by simp [I64]) h (by simp)
theorem vc_edg {n : Int} (h : I64 n) : VC (vEdg n) [.int .i64 7, .int .i64 n, .str [], .nilSl] := .nil _ _ _ (by simp [I64]) h (by simp)
theorem vc_str {s : List UInt8} (h : s.length ≤ 140737488355328) : VC (vStr s) [.int .i64 2, .int .i64 0, .str s, .nilSl] := .nil _ _ _ (by simp [I64]) (by simp [I64]) h
theorem lc_one {v : Val} {cs : List PV} (h : VC v cs) (f : Bool) : LC [v] (.sl [cs] f) := .inr ⟨_, f, rfl, by simp, rfl, fun j w ds h1 h2 => by
  match j with
  | 0 => simp at h1 h2; subst h1 h2; exact h
  | j + 1 => simp at h1⟩
theorem VC.form {v : Val} {cs : List PV} (h : VC v cs) : ∃ k n s q, cs = [.int .i64 k, .int .i64 n, .str s, q] := by
  cases h
  all_goals exact ⟨_, _, _, _, rfl⟩
theorem numU {n : Int} (h : I64 n) : (if 0 < n then n.toNat else 0) < 18446744073709551616 := by
  unfold I64 at h
  split <;> omega
theorem put_e1 {n : Int} : PV.int .i64 (if n > 0 then n else 0) = PV.int .i64 (((if 0 < n then n.toNat else 0 : Nat)) : Int) := Z3x (by split <;> omega)
theorem put_e2 {n : Int} (h : I64 n) : PV.int .u64 (IntKind.u64.wrap (((if 0 < n then n.toNat else 0 : Nat)) : Int)) = PV.int .u64 (((if 0 < n then n.toNat else 0 : Nat)) : Int) := Z3x (by rw [Z0x]; have := numU h; omega)
theorem putK1 {st : St} {b : PV} {s : List UInt8} (hbn : st.base = st.next) (hv : RB st b s) (hs : s.length ≤ 100000000000000) {n : Int} (hn : I64 n) (f : Bool) :
    ∃ v' st', T.R (.raw n_keys_put [b, .sl [[.int .i64 n]] f] st v' st') ∧ AccT 1 st' v' (Z00 (s ++ Z2g n)) ∧ Grow st .nilSl st' v' := by
  obtain ⟨v1, st1, h1, h2, h3⟩ := putG (st := ⟨st.next, st.next, st.toks⟩) rfl (hv.keep (Nat.le_refl _) (fun _ _ => rfl)) hs _ (numU hn)
  have e1 := put_e1 (n := n)
  have e2 := put_e2 hn
  refine Z1f rfl rfl ?_
  repeat' first | ((with_reducible show V _ _ _ _ _ _); first | refine V_loop rfl (Z08 ?_) | refine Z0k rfl rfl ?_ | refine V_O rfl ?_ | refine Z16 rfl rfl ?_ | refine Z1e rfl rfl ?_) | ((with_reducible show VO _ _ _ _ _ _ _); first | refine O_idx [.int .i64 n] rfl rfl (by decide) rfl rfl ?_ | refine Z0q e1 rfl ?_ | refine Z0q e2 rfl ?_ | refine Z0s h1 h3.1 rfl rfl ?_ | refine Z02 rfl ?_ | refine Z03 ?_)
  exact ⟨h2, Grow.re (b := 0) h3⟩
theorem putK2 {st : St} {b : PV} {s : List UInt8} (hbn : st.base = st.next) (hv : RB st b s) {n m : Int} (hs : s.length ≤ 10000000000000) (hn : I64 n) (hm : I64 m) (f : Bool) :
    ∃ v' st', T.R (.raw n_keys_put [b, .sl [[.int .i64 n], [.int .i64 m]] f] st v' st') ∧ AccT 1 st' v' (Z00 (s ++ Z2g n ++ Z2g m)) ∧ Grow st .nilSl st' v' := by
  obtain ⟨v1, st1, h1, h2, h3⟩ := putG (st := ⟨st.next, st.next, st.toks⟩) rfl (hv.keep (Nat.le_refl _) (fun _ _ => rfl)) (by omega) _ (numU hn)
  have hl : (Z2g n).length ≤ 10 := Z1r _ _
  obtain ⟨v2, st2, k1, k2, k3⟩ := putG (st := ⟨st1.next, st1.next, st1.toks⟩) rfl (b := v1) (s := s ++ Z2g n) ((AccT.rb h2).keep (Nat.le_refl _) (fun _ _ => rfl)) (by rw [List.length_append]; omega) _ (numU hm)
  have e1 := put_e1 (n := n)
  have e2 := put_e2 hn
  have e3 := put_e1 (n := m)
  have e4 := put_e2 hm
  refine Z1f rfl rfl ?_
  repeat' first | ((with_reducible show V _ _ _ _ _ _); first | refine V_loop rfl (Z08 ?_) | refine Z0k rfl rfl ?_ | refine V_O rfl ?_ | refine Z16 rfl rfl ?_ | refine Z1e rfl rfl ?_) | ((with_reducible show VO _ _ _ _ _ _ _); first | refine O_idx [.int .i64 n] rfl rfl (by decide) rfl rfl ?_ | refine O_idx [.int .i64 m] rfl rfl (by decide) rfl rfl ?_ | refine Z0q e1 rfl ?_ | refine Z0q e2 rfl ?_ | refine Z0q e3 rfl ?_ | refine Z0q e4 rfl ?_ | refine Z0s h1 h3.1 rfl rfl ?_ | refine Z0s k1 k3.1 rfl rfl ?_ | refine Z02 rfl ?_ | refine Z03 ?_)
  refine ⟨k2, ?_⟩
  have g1 : Grow st .nilSl ⟨st.base, st1.next, st1.toks⟩ v1 := Grow.re (b := 0) h3
  have g2 : Grow ⟨st.base, st1.next, st1.toks⟩ .nilSl ⟨st.base, st2.next, st2.toks⟩ v2 := ⟨rfl, k3.2.1, k3.2.2.1, k3.2.2.2⟩
  refine ⟨rfl, Nat.le_trans g1.2.1 g2.2.1, ?_, fun u hu hn => ?_⟩
  · rcases g2.2.2.1 with h | ⟨m, h, hm⟩
    · exact .inl h
    · exact .inr ⟨m, h, Nat.le_trans g1.2.1 hm⟩
  · exact (g2.2.2.2 u (Nat.lt_of_lt_of_le hu g1.2.1) (by simp [Z15])).trans (g1.2.2.2 u hu hn)
theorem key_one {v : Val} {cs : List PV} (h : VC v cs) : ∃ q, BV q (keyB [v]) ∧ T.R (.call n_codec_Key [.sl [cs] true] (.tuple [q, .int .i64 (keyE [v])])) := run_Key [v] _ (lc_one h true) (by simp)
theorem keyK_loop {l : List Val} {p : PV} (hp : LC l p) : ∀ (rest pre : List Val) (st : St) (b : PV) (s : List UInt8), l = pre ++ rest → AB st b s → s.length + (rest.flatMap kB).length ≤ 100000000000000 →
    V T (PE fun x e st' => x = .exit 0 ∧ ∃ b', e = ecOf [(0, b')] ∧ AB st' b' (s ++ rest.flatMap kB) ∧ Grow st b st' b') [.code (.loop lp_keys_key_0)] .normal (ecOf [(0, b), (9, p), (10, .int .i64 l.length), (11, .int .i64 pre.length)]) st := by
  obtain ⟨_, _, hbig⟩ := hp.len
  intro rest
  induction rest with
  | nil =>
    intro pre st b s hl hA hlen
    have hlt : decide ((pre.length : Int) < l.length) = false := decide_eq_false (by subst hl; simp)
    refine Z08 ?_
    repeat' first | ((with_reducible show V _ _ _ _ _ _); first | refine Z2y hlt rfl rfl ?_ | refine V_out [(0, b)] rfl ⟨rfl, trivial⟩ ⟨rfl, b, rfl, by simpa using hA, .refl _ _⟩ | refine V_O rfl ?_) | refine Z02 rfl ?_ | refine Z03 ?_
  | cons v rest ih =>
    intro pre st b s hl hA hlen
    have hlt : decide ((pre.length : Int) < l.length) = true := decide_eq_true (by subst hl; simp; omega)
    have hpl : pre.length < l.length := by subst hl; simp
    obtain ⟨cs, hat, hvc⟩ := hp.at (j := pre.length) (v := v) (by subst hl; simp)
    have hw : IntKind.i64.wrap ((pre.length : Int) + 1) = ((pre ++ [v]).length : Int) := by rw [Z0l]; simp; have : 140737488355328 = 140737488355328 := rfl; omega
    obtain ⟨q, hq, hk⟩ := key_one hvc
    obtain ⟨vk, vn, vs, vq, hcs⟩ := hvc.form
    have hplv := hvc.pl
    rw [List.flatMap_cons, List.length_append] at hlen
    have hA1 : AB ((st.new (.var [.int .i64 0, .int .i64 0, .str [], .nilSl])).put st.next (.var cs)) b s := hA.keep (by simp [St.new, St.put]) (fun u hu => by
      have := hA.lt hu
      rw [St.get_put_old (by omega)]
      exact St.get_new_old this)
    have hG1 : Grow st b ((st.new (.var [.int .i64 0, .int .i64 0, .str [], .nilSl])).put st.next (.var cs)) b := ⟨rfl, by simp [St.new, St.put], .inl rfl, fun u hu _ => by rw [St.get_put_old (by omega)]; exact St.get_new_old hu⟩
    have hg : ((st.new (.var [.int .i64 0, .int .i64 0, .str [], .nilSl])).put st.next (.var cs)).get st.next = some (.var cs) := St.get_put
    generalize hS : (st.new (.var [.int .i64 0, .int .i64 0, .str [], .nilSl])).put st.next (.var cs) = S1 at hA1 hG1 hg
    have hst : storeAt (st.new (.var [.int .i64 0, .int .i64 0, .str [], .nilSl])) (.ptr st.next 0) (.agg cs) = some S1 := by rw [← hS]; exact Z0i St.get_new (by rw [hvc.len4]; rfl)
    have hone := hvc.one
    have hl4 := hvc.len4
    clear hvc
    subst hcs
    have hpvq : Pl vq := hplv _ (by simp)
    have hpsl : Pl (.sl [[.int .i64 vk, .int .i64 vn, .str vs, vq]] true) := .sl _ _ (fun ds h c hc => by rw [List.mem_singleton] at h; subst h; exact hplv c hc)
    refine Z08 ?_
    by_cases he : keyE [v] = 0
    · have hb : kB v = keyB [v] := by simp [kB, he]
      rw [← hb] at hq
      obtain ⟨b2, S2, k1, k2, k3⟩ := hA1.app (t := kB v) (by omega)
      have hi := ih (pre ++ [v]) S2 b2 (s ++ kB v) (by rw [hl]; simp) k2 (by rw [List.length_append]; omega)
      have hd := Z13 (p := keyE [v] = 0) he
      repeat' first | ((with_reducible show V _ _ _ _ _ _); first | refine Z2d hlt rfl rfl ?_ | refine V_monoP (V_re rfl hi ⟨rfl, rfl, rfl, some_int hw, trivial⟩) ?_ | refine V_O rfl ?_ | refine Z16 rfl rfl ?_) | ((with_reducible show VO _ _ _ _ _ _ _); first | refine Z2q rfl rfl hat ?_ | refine Z0b rfl rfl hone hl4 rfl hst ?_ | refine Z1p rfl hg hl4 ?_ | refine Z0u rfl rfl hk ?_ | refine Z0q hd rfl ?_ | refine Z09 rfl rfl (Z0j hq) AB.okEls (by decide) (by decide) k1 ?_ | refine Z02 rfl ?_ | refine Z05 rfl ?_ | refine Z03 ?_)
      rintro x e st' ⟨rfl, b', rfl, h1, h2⟩
      exact ⟨rfl, b', rfl, by rw [List.flatMap_cons, ← List.append_assoc]; exact h1, hG1.trans (k3.trans h2)⟩
    · have hb : kB v = [] := by simp [kB, he]
      have hi := ih (pre ++ [v]) S1 b s (by rw [hl]; simp) hA1 (by omega)
      have hd := Z0n (p := keyE [v] = 0) he
      repeat' first | ((with_reducible show V _ _ _ _ _ _); first | refine Z2d hlt rfl rfl ?_ | refine V_monoP (V_re rfl hi ⟨rfl, rfl, rfl, some_int hw, trivial⟩) ?_ | refine V_O rfl ?_ | refine Z1e rfl rfl ?_) | ((with_reducible show VO _ _ _ _ _ _ _); first | refine Z2q rfl rfl hat ?_ | refine Z0b rfl rfl hone hl4 rfl hst ?_ | refine Z1p rfl hg hl4 ?_ | refine Z0u rfl rfl hk ?_ | refine Z0q hd rfl ?_ | refine Z02 rfl ?_ | refine Z05 rfl ?_ | refine Z03 ?_)
      rintro x e st' ⟨rfl, b', rfl, h1, h2⟩
      exact ⟨rfl, b', rfl, by rw [List.flatMap_cons, hb, List.nil_append]; exact h1, hG1.trans h2⟩
theorem keyK {l : List Val} {p : PV} (hp : LC l p) : AppsB T n_keys_key [p] (l.flatMap kB) := by
  intro st b s hbn hA hlen
  obtain ⟨h1, h2, _⟩ := hp.len
  refine Z1f rfl rfl ?_
  repeat' first | refine V_cutTo rfl (keyK_loop hp l [] st b s rfl hA hlen) ⟨rfl, rfl, rfl, rfl, trivial⟩ ?_ | refine V_O rfl ?_ | ((with_reducible show VO _ _ _ _ _ _ _); first | refine Z0p rfl h1 h2 ?_ | refine Z02 rfl ?_ | refine Z03 ?_)
  rintro x e st' ⟨rfl, b', rfl, k1, k2⟩
  repeat' first | refine Z0k rfl rfl ?_ | refine V_O rfl ?_ | refine Z02 rfl ?_ | refine Z03 ?_
  exact ⟨k1, k2⟩
end Go.Proofs.YtgdjnlopdpjnaaaGreatDoor
set_option linter.unusedVariables false
set_option linter.unusedSimpArgs false
namespace Go.Proofs.YtgdjnlopdpjnaaaGreatDoor
open Go Go.AM Go.RowKit
theorem C_loadW {T : Tb} {Q : Post} {C : Chn} {j : Nat} {k : List Fr} {l : List POp} {kill : List Nat} {ρ : EC} {b : Bool} {i : Nat} {d : Option Nat} {a : Opd} {t off n : Nat} {cs ds : List PV} (hx : C.idx j = none) (hw : C.away j ⟨d, none, .load n true a⟩ = true) (ha : a.get ρ = some (.ptr t off)) (hg : ∀ i, (C.S i).get t = some (.var cs)) (hl : off + n ≤ cs.length) (hd : (cs.drop off).take n = ds) (h : Go.AM.VC T Q C (j + 1) l kill k (ρ.sets d (.agg ds)) b i) : Go.AM.VC T Q C j (⟨d, none, .load n true a⟩ :: l) kill k ρ b i :=
  C_look hx hw (fun i => by
    have hs := hg i
    simp only [Z0v, get1, ha, loadAt, behind, hs, Option.bind_some, slice?]
    rw [if_pos hl]
    simp [hd]) h
theorem rb_of {st : St} {p : PV} {s : List UInt8} (h : BV p s) : RB st p s := by
  cases h with
  | nil => exact .inl ⟨rfl, rfl⟩
  | sl s f => exact .inr (.inl ⟨f, rfl⟩)
theorem own_call {f : Nat} {args : List PV} {t : List UInt8} {v' : PV} {st' : St} (h : T.R (.raw f args emptySt v' st')) (hA : AccT 1 st' v' (Z00 t)) : ∃ q, T.R (.call f args q) ∧ BV q t := by
  obtain ⟨q, k1, k2⟩ := AB.view (.inr hA)
  exact ⟨q, call_of_raw h k1, k2⟩
theorem grow_nil2 {st st1 st2 : St} {v1 v2 : PV} (h : Grow st .nilSl st1 v1) (k : Grow st1 v1 st2 v2) (hf : ∃ m, Z15 v1 = some m ∧ st.next ≤ m) : Grow st .nilSl st2 v2 := by
  obtain ⟨m, hm, hle⟩ := hf
  refine ⟨k.1.trans h.1, Nat.le_trans h.2.1 k.2.1, ?_, fun u hu hn => ?_⟩
  · rcases k.2.2.1 with e | ⟨n, e, hn⟩
    · exact .inr ⟨m, e.trans hm, hle⟩
    · exact .inr ⟨n, e, Nat.le_trans h.2.1 hn⟩
  · exact (k.2.2.2 u (Nat.lt_of_lt_of_le hu h.2.1) (by rw [hm]; intro e; injection e with e; omega)).trans (h.2.2.2 u hu hn)
theorem numK_ne (n : Int) : Z2g n ≠ [] := putL_ne _ _
theorem cells_ne {s : List UInt8} (h : s ≠ []) : Z00 s ≠ [] := by simpa [Z00] using h
theorem putTextR {st : St} {b : PV} {s t : List UInt8} (hbn : st.base = st.next) (hv : RB st b s) (hs : s.length + t.length ≤ 10000000000000) (ht : t.length ≤ 140737488355328) :
    ∃ v' st', T.R (.raw n_keys_putText [b, .str t] st v' st') ∧ AccT 1 st' v' (Z00 (s ++ Z2s t)) ∧ Grow st .nilSl st' v' := by
  obtain ⟨v1, st1, h1, h2, h3⟩ := putK1 (st := ⟨st.next, st.next, st.toks⟩) rfl (hv.keep (Nat.le_refl _) (fun _ _ => rfl)) (by omega) (i64_len ht) true
  have hl : (Z2g t.length).length ≤ 10 := Z1r _ _
  have hA : AccT 1 ⟨st.base, st1.next, st1.toks⟩ v1 (Z00 (s ++ Z2g t.length)) := h2
  obtain ⟨v2, st2, k1, k2, k3⟩ := Z2e hA t (by rw [List.length_append]; omega)
  have hG : Grow st .nilSl ⟨st.base, st1.next, st1.toks⟩ v1 := Grow.re (b := 0) h3
  refine Z1f rfl rfl ?_
  repeat' first | refine Z0k rfl rfl ?_ | refine V_O rfl ?_ | ((with_reducible show VO _ _ _ _ _ _ _); first | refine Z0s h1 h3.1 rfl rfl ?_ | refine Z09 rfl rfl rfl (Z04 _) (by decide) (by decide) k1 ?_ | refine Z02 rfl ?_ | refine Z03 ?_)
  refine ⟨by simp only [Z2s]; rw [← List.append_assoc]; exact k2, grow_nil2 hG k3 ?_⟩
  exact AccT.none_fresh hG hA (cells_ne (by simp [numK_ne]))
theorem call_putText {b : PV} {s t : List UInt8} (hb : BV b s) (hs : s.length + t.length ≤ 10000000000000) (ht : t.length ≤ 140737488355328) : ∃ q, T.R (.call n_keys_putText [b, .str t] q) ∧ BV q (s ++ Z2s t) := by
  obtain ⟨v', st', h1, h2, _⟩ := putTextR (st := emptySt) rfl (rb_of hb) hs ht
  exact own_call h1 h2
theorem call_put1 {n : Int} (hn : I64 n) (f : Bool) : ∃ q, T.R (.call n_keys_put [.nilSl, .sl [[.int .i64 n]] f] q) ∧ BV q (Z2g n) := by
  obtain ⟨v', st', h1, h2, _⟩ := putK1 (st := emptySt) (b := .nilSl) (s := []) rfl (.inl ⟨rfl, rfl⟩) (by simp) hn f
  exact own_call h1 h2
theorem call_put2 {n m : Int} (hn : I64 n) (hm : I64 m) (f : Bool) : ∃ q, T.R (.call n_keys_put [.nilSl, .sl [[.int .i64 n], [.int .i64 m]] f] q) ∧ BV q (Z2g n ++ Z2g m) := by
  obtain ⟨v', st', h1, h2, _⟩ := putK2 (st := emptySt) (b := .nilSl) (s := []) rfl (.inl ⟨rfl, rfl⟩) (by simp) hn hm f
  exact own_call h1 h2
theorem run_PutM {v : Val} {cs : List PV} (hv : VC v cs) (hlen : (putM v).length ≤ 100000000000000) : ∃ q, T.R (.call n_codec_Put [.nilSl, .agg cs] q) ∧ BV q (putM v) := by
  by_cases hm : Z21 8 v = true
  · have e : putM v = putV v := by simp [putM, hm]
    rw [e] at hlen ⊢
    exact ⟨_, run_PutMay hv hm hlen, .sl _ _⟩
  · have e : putM v = [] := by simp [putM, hm]
    have hchk := run_Check hv
    have hc0 : chk v = 20 := by simp [chk, hm]
    rw [hc0] at hchk
    have plc := hv.pl
    have hA0 : (emptySt.new (.var cs)).get 0 = some (.var cs) := rfl
    rw [e]
    refine ⟨.nilSl, ?_, .nil⟩
    refine Z0c rfl rfl ?_
    repeat' first | ((with_reducible show V _ _ _ _ _ _); first | refine V_O rfl ?_ | refine Z16 rfl rfl ?_ | refine Z1t rfl rfl ?_) | ((with_reducible show VO _ _ _ _ _ _ _); first | refine Z1p rfl hA0 hv.len4 ?_ | refine Z0u rfl rfl hchk ?_ | refine Z02 rfl ?_ | refine Z05 rfl ?_ | refine Z03 ?_)
    rfl
theorem props_loop {l : List Prp} {p : PV} (hp : LR PpC p l) : ∀ (rest pre : List Prp) (st : St) (b : PV) (s : List UInt8), l = pre ++ rest → AccT 1 st b (Z00 s) → s ≠ [] → s.length + (rest.flatMap propK).length ≤ 1000000000000 →
    V T (PE fun x e st' => x = .exit 0 ∧ ∃ b', e = ecOf [(0, b')] ∧ AccT 1 st' b' (Z00 (s ++ rest.flatMap propK)) ∧ Grow st b st' b') [.code (.loop lp_keys_putProps_0)] .normal (ecOf [(0, b), (12, p), (13, .int .i64 l.length), (14, .int .i64 pre.length)]) st := by
  obtain ⟨_, _, hbig⟩ := hp.len
  intro rest
  induction rest with
  | nil =>
    intro pre st b s hl hA hne hlen
    have hlt : decide ((pre.length : Int) < l.length) = false := decide_eq_false (by subst hl; simp)
    refine Z08 ?_
    repeat' first | ((with_reducible show V _ _ _ _ _ _); first | refine Z2y hlt rfl rfl ?_ | refine V_out [(0, b)] rfl ⟨rfl, trivial⟩ ⟨rfl, b, rfl, by simpa using hA, .refl _ _⟩ | refine V_O rfl ?_) | refine Z02 rfl ?_ | refine Z03 ?_
  | cons v rest ih =>
    intro pre st b s hl hA hne hlen
    have hlt : decide ((pre.length : Int) < l.length) = true := decide_eq_true (by subst hl; simp; omega)
    have hpl : pre.length < l.length := by subst hl; simp
    obtain ⟨cs, hat, hvc⟩ := hp.at (fun _ _ h => h.len5) (j := pre.length) (a := v) (by subst hl; simp)
    have hcl := hvc.len5
    have hplc := hvc.pl
    obtain ⟨hnl, vc, rfl, hvv⟩ := hvc
    have hw : IntKind.i64.wrap ((pre.length : Int) + 1) = ((pre ++ [v]).length : Int) := by rw [Z0l]; simp; omega
    rw [List.flatMap_cons, List.length_append] at hlen
    have hpk : propK v = Z2s v.name ++ putM v.val := rfl
    rw [hpk, List.length_append] at hlen
    have htl : (Z2s v.name).length = (Z2g v.name.length).length + v.name.length := by simp [Z2s]
    obtain ⟨q, hq1, hq2⟩ := run_PutM hvv (by omega)
    have hg : ((st.new (.var [.str [], .int .i64 0, .int .i64 0, .str [], .nilSl])).put st.next (.var (.str v.name :: vc))).get st.next = some (.var (.str v.name :: vc)) := St.get_put
    have hst : storeAt (st.new (.var [.str [], .int .i64 0, .int .i64 0, .str [], .nilSl])) (.ptr st.next 0) (.agg (.str v.name :: vc)) = some ((st.new (.var [.str [], .int .i64 0, .int .i64 0, .str [], .nilSl])).put st.next (.var (.str v.name :: vc))) := Z0i St.get_new (by rw [hcl]; rfl)
    have hnx : ((st.new (.var [.str [], .int .i64 0, .int .i64 0, .str [], .nilSl])).put st.next (.var (.str v.name :: vc))).next = st.next + 1 := rfl
    have hA1 : AccT 1 ((st.new (.var [.str [], .int .i64 0, .int .i64 0, .str [], .nilSl])).put st.next (.var (.str v.name :: vc))) b (Z00 s) := by
      rcases hA with h | ⟨t, g, rfl, h1, h2⟩
      · exact .inl h
      · exact .inr ⟨t, g, rfl, by rw [St.get_put_old (by omega)]; rw [St.get_new_old h2]; exact h1, by simp [St.new, St.put]; omega⟩
    have hG1 : Grow st b ((st.new (.var [.str [], .int .i64 0, .int .i64 0, .str [], .nilSl])).put st.next (.var (.str v.name :: vc))) b := ⟨rfl, by simp [St.new, St.put], .inl rfl, fun u hu _ => by rw [St.get_put_old (by omega)]; exact St.get_new_old hu⟩
    generalize hS : (st.new (.var [.str [], .int .i64 0, .int .i64 0, .str [], .nilSl])).put st.next (.var (.str v.name :: vc)) = S1 at hst hA1 hG1 hg hnx
    obtain ⟨v1, st1, h1, h2, h3⟩ := putTextR (st := ⟨S1.next, S1.next, S1.toks⟩) rfl ((AccT.rb hA1).keep (Nat.le_refl _) (fun _ _ => rfl)) (t := v.name) (by omega) hnl
    have hA2 : AccT 1 ⟨S1.base, st1.next, st1.toks⟩ v1 (Z00 (s ++ Z2s v.name)) := h2
    have hG2 : Grow S1 .nilSl ⟨S1.base, st1.next, st1.toks⟩ v1 := Grow.re (b := 0) h3
    have hfr := AccT.none_fresh hG2 hA2 (cells_ne (by simp [hne]))
    have hg2 : (⟨S1.base, st1.next, st1.toks⟩ : St).get st.next = some (.var (.str v.name :: vc)) := (hG2.2.2.2 st.next (by omega) (by simp [Z15])).trans hg
    obtain ⟨v2, S3, k1, k2, k3⟩ := Z2e hA2 (putM v.val) (by rw [List.length_append]; omega)
    have hg3 : S3.get st.next = some (.var (.str v.name :: vc)) := by
      refine (k3.2.2.2 st.next (by have := hG2.2.1; omega) ?_).trans hg2
      obtain ⟨m, e1, e2⟩ := hfr
      rw [e1]
      intro e
      injection e with e
      omega
    have hG3 : Grow S1 .nilSl S3 v2 := grow_nil2 hG2 k3 hfr
    have hi := ih (pre ++ [v]) S3 v2 (s ++ propK v) (by rw [hl]; simp) (by rw [hpk, ← List.append_assoc]; exact k2) (by simp [hne]) (by rw [hpk, List.length_append, List.length_append]; omega)
    have hall : ∀ i, ((mkC [3, 7] [some 21, some 25] S1 [⟨S1.base, st1.next, st1.toks⟩, S3] none).S i).get st.next = some (.var (.str v.name :: vc)) := Z1o (Q := fun s => s.get st.next = some (.var (.str v.name :: vc))) ⟨hg, hg2, hg3⟩
    have hvl := hvv.len4
    have hplv := hvv.pl
    have hlw : 1 + 4 ≤ (PV.str v.name :: vc).length := by simp [hvl]
    have hdw : ((PV.str v.name :: vc).drop 1).take 4 = vc := by
      rw [List.drop_one, List.tail_cons]
      exact List.take_of_length_le (by omega)
    refine Z08 ?_
    repeat' first | ((with_reducible show V _ _ _ _ _ _); first | refine Z2d hlt rfl rfl ?_ | refine V_C (mkC [3, 7] [some 21, some 25] S1 [⟨S1.base, st1.next, st1.toks⟩, S3] none) rfl rfl ?_ | refine V_monoP (V_re rfl hi ⟨rfl, rfl, rfl, some_int hw, trivial⟩) ?_ | refine V_O rfl ?_) | ((with_reducible show VO _ _ _ _ _ _ _); first | refine Z2q rfl rfl hat ?_ | refine O_loadI rfl hcl ?_ | refine Z0b rfl rfl (List.all_eq_true.2 (fun c hc => by rcases List.mem_cons.1 hc with rfl | hc; exact rfl; exact List.all_eq_true.1 hvv.one c hc)) hcl rfl hst ?_ | refine Z02 rfl ?_ | refine Z05 rfl ?_ | refine Z03 ?_) | ((with_reducible show Go.AM.VC _ _ _ _ _ _ _ _ _ _); first | refine Z3y rfl rfl rfl rfl rfl rfl rfl rfl h1 h3.1 rfl ?_ | refine C_loadV rfl rfl rfl hall rfl ?_ | refine C_loadW (ds := vc) rfl rfl rfl hall hlw hdw ?_ | refine C_call rfl rfl rfl rfl (fun _ => Z1a (by (repeat' (first | exact Pl.int _ _ | exact Pl.bool _ | exact Pl.str _ | exact Pl.nilSl | exact Z1d | refine Z0m ?_ ?_ | refine Pl.tuple _ ?_ | refine Pl.agg _ ?_ | refine Pl.func _ _ ?_ | assumption | refine Pl.iptr _ _ ?_ | exact Z1h | refine Z11 ?_ ?_ | refine Pl.sl _ _ ?_)); first | done | fail)) hq1 ?_ | refine C_append rfl rfl rfl rfl rfl rfl rfl rfl rfl (Z0j hq2) (Z04 _) (by decide) (by decide) k1 ?_ | refine Z3n rfl rfl (fun _ => rfl) ?_ | refine C_nil rfl rfl ?_)
    rintro x e st' ⟨rfl, b', rfl, r1, r2⟩
    refine ⟨rfl, b', rfl, by rw [List.flatMap_cons, ← List.append_assoc]; exact r1, hG1.trans ((Grow_nil hG3 k2 (cells_ne (by simp [hne]))).trans r2)⟩
end Go.Proofs.YtgdjnlopdpjnaaaGreatDoor
set_option linter.unusedVariables false
set_option linter.unusedSimpArgs false
namespace Go.Proofs.YtgdjnlopdpjnaaaGreatDoor
open Go Go.AM Go.RowKit
theorem Z3w (v : Val) : (kB v).length ≤ 259 := by
  unfold kB
  split
  · rename_i h
    unfold keyE at h
    unfold keyB
    by_cases hm : Z21 8 v = true
    · by_cases h45 : v.kind = 4 ∨ v.kind = 5
      · simp [keyR, hm, h45] at h
      · have := form_len hm
        simpa [keyR, hm, h45, Except.map] using this
    · simp [keyR, hm] at h
  · simp
theorem putPropsR {st : St} {b : PV} {s : List UInt8} {l : List Prp} {p : PV} (hbn : st.base = st.next) (hv : RB st b s) (hp : LR PpC p l) (hlen : s.length + (Z20 l).length ≤ 100000000000) :
    ∃ v' st', T.R (.raw n_keys_putProps [b, p] st v' st') ∧ AccT 1 st' v' (Z00 (s ++ Z20 l)) ∧ Grow st .nilSl st' v' := by
  obtain ⟨e1, e2, e3⟩ := hp.len
  have hpk : Z20 l = Z2g l.length ++ l.flatMap propK := rfl
  rw [hpk, List.length_append] at hlen
  obtain ⟨v1, st1, h1, h2, h3⟩ := putK1 (st := ⟨st.next, st.next, st.toks⟩) rfl (hv.keep (Nat.le_refl _) (fun _ _ => rfl)) (by omega) (n := (l.length : Int)) (by unfold I64; omega) true
  have hA : AccT 1 ⟨st.base, st1.next, st1.toks⟩ v1 (Z00 (s ++ Z2g l.length)) := h2
  have hG : Grow st .nilSl ⟨st.base, st1.next, st1.toks⟩ v1 := Grow.re (b := 0) h3
  have hne : s ++ Z2g (l.length : Int) ≠ [] := by simp [numK_ne]
  have hlp := props_loop hp l [] ⟨st.base, st1.next, st1.toks⟩ v1 (s ++ Z2g l.length) rfl hA hne (by rw [List.length_append]; omega)
  refine Z1f rfl rfl ?_
  repeat' first | refine V_cutTo rfl hlp ⟨rfl, rfl, rfl, rfl, trivial⟩ ?_ | refine V_O rfl ?_ | ((with_reducible show VO _ _ _ _ _ _ _); first | refine Z0p rfl e1 e2 ?_ | refine Z0s h1 h3.1 rfl rfl ?_ | refine Z02 rfl ?_ | refine Z03 ?_)
  rintro x e st' ⟨rfl, b', rfl, k1, k2⟩
  repeat' first | refine Z0k rfl rfl ?_ | refine V_O rfl ?_ | refine Z02 rfl ?_ | refine Z03 ?_
  refine ⟨by rw [hpk, ← List.append_assoc]; exact k1, grow_nil2 hG k2 (AccT.none_fresh hG hA (cells_ne hne))⟩
theorem call_putProps {b : PV} {s : List UInt8} {l : List Prp} {p : PV} (hb : BV b s) (hp : LR PpC p l) (hlen : s.length + (Z20 l).length ≤ 100000000000) : ∃ q, T.R (.call n_keys_putProps [b, p] q) ∧ BV q (s ++ Z20 l) := by
  obtain ⟨v', st', h1, h2, _⟩ := putPropsR (st := emptySt) rfl (rb_of hb) hp hlen
  exact own_call h1 h2
def LA (p : PV) (t : List UInt8) : Prop := (p = .nilSl ∧ t = []) ∨ ∃ s : List UInt8, p = .sl [[.str s]] true ∧ s.length ≤ 140737488355328 ∧ t = kB (vStr s)
theorem labelledR {p : PV} {t : List UInt8} (hp : LA p t) : AppsB T n_keys_labelled [p] t := by
  intro st b s hbn hA hlen
  rcases hp with ⟨rfl, rfl⟩ | ⟨u, rfl, hu, rfl⟩
  · refine Z1f rfl rfl ?_
    repeat' first | ((with_reducible show V _ _ _ _ _ _); first | refine V_loop rfl (Z08 ?_) | refine Z0k rfl rfl ?_ | refine V_O rfl ?_ | refine Z1e rfl rfl ?_) | refine Z02 rfl ?_ | refine Z03 ?_
    exact ⟨by simpa using hA, .refl _ _⟩
  · have hk := keyK (lc_one (vc_str hu) true)
    rw [List.flatMap_cons, List.flatMap_nil, List.append_nil] at hk
    obtain ⟨v1, st1, h1, h2, h3⟩ := hk ⟨st.next, st.next, st.toks⟩ b s rfl hA hlen
    have hstr := run_VStr u
    refine Z1f rfl rfl ?_
    repeat' first | ((with_reducible show V _ _ _ _ _ _); first | refine V_loop rfl (Z08 ?_) | refine Z0k rfl rfl ?_ | refine V_O rfl ?_ | refine Z16 rfl rfl ?_ | refine Z1e rfl rfl ?_) | ((with_reducible show VO _ _ _ _ _ _ _); first | refine Z0u rfl rfl hstr ?_ | refine Z0s h1 h3.1 rfl rfl ?_ | refine Z02 rfl ?_ | refine Z03 ?_)
    exact ⟨h2, Grow.re (b := 0) h3⟩
theorem grow_lit {st st' : St} {s : List UInt8} {f : Bool} {v' : PV} (h : Grow st (.sl (Z00 s) f) st' v') : Grow st .nilSl st' v' := ⟨h.1, h.2.1, h.2.2.1, h.2.2.2⟩
theorem wrapU8 (n : Int) : PV.int .u8 (IntKind.u8.wrap n) = PV.int .u8 ((UInt8.ofNat (n % 256).toNat).toNat : Int) := by
  have := wrap8' n
  simp only [Z00, List.map_cons, List.map_nil] at this
  injection this with h1 _
  injection h1
theorem labelR {kind : Int} {p : PV} {t : List UInt8} (hp : LA p t) (ht : t.length ≤ 1000) : MakesB T n_keys_Label [.int .i64 kind, p] ([5, UInt8.ofNat (kind % 256).toNat] ++ t) := by
  intro st hbn
  obtain ⟨v1, st1, h1, h2, h3⟩ := labelledR hp ⟨st.next, st.next, st.toks⟩ _ [5, UInt8.ofNat (kind % 256).toNat] rfl (.lit _ _) (by simp; omega)
  have e1 := wrapU8 kind
  refine Z1f rfl rfl ?_
  repeat' first | refine Z0k rfl rfl ?_ | refine V_O rfl ?_ | ((with_reducible show VO _ _ _ _ _ _ _); first | refine Z0q e1 rfl ?_ | refine Z0s h1 h3.1 rfl rfl ?_ | refine Z02 rfl ?_ | refine Z03 ?_)
  exact ⟨h2, grow_lit (Grow.re (b := 0) h3)⟩
theorem outR {n : Int} {p : PV} {t : List UInt8} (hn : I64 n) (hp : LA p t) (ht : t.length ≤ 1000) : MakesB T n_keys_Out [.int .i64 n, p] (3 :: kB (vVtx n) ++ t) := by
  intro st hbn
  have hk := keyK (lc_one (vc_vtx hn) true)
  rw [List.flatMap_cons, List.flatMap_nil, List.append_nil] at hk
  have hkl := Z3w (vVtx n)
  obtain ⟨v1, st1, h1, h2, h3⟩ := hk ⟨st.next, st.next, st.toks⟩ _ [3] rfl (.lit _ _) (by simp; omega)
  obtain ⟨v2, st2, k1, k2, k3⟩ := labelledR hp ⟨st1.next, st1.next, st1.toks⟩ v1 ([3] ++ kB (vVtx n)) rfl h2 (by simp; omega)
  have hv := run_VVertex n
  have g1 : Grow st .nilSl ⟨st.base, st1.next, st1.toks⟩ v1 := grow_lit (Grow.re (b := 0) h3)
  have g2 : Grow ⟨st.base, st1.next, st1.toks⟩ v1 ⟨st.base, st2.next, st2.toks⟩ v2 := Grow.re (st := ⟨st.base, st1.next, st1.toks⟩) (b := 0) k3
  refine Z1f rfl rfl ?_
  repeat' first | refine Z0k rfl rfl ?_ | refine V_O rfl ?_ | ((with_reducible show VO _ _ _ _ _ _ _); first | refine Z0u rfl rfl hv ?_ | refine Z0s h1 h3.1 rfl rfl ?_ | refine Z0s k1 k3.1 rfl rfl ?_ | refine Z02 rfl ?_ | refine Z03 ?_)
  exact ⟨k2, g1.trans g2⟩
theorem inR {n : Int} {p : PV} {t : List UInt8} (hn : I64 n) (hp : LA p t) (ht : t.length ≤ 1000) : MakesB T n_keys_In [.int .i64 n, p] (4 :: kB (vVtx n) ++ t) := by
  intro st hbn
  have hk := keyK (lc_one (vc_vtx hn) true)
  rw [List.flatMap_cons, List.flatMap_nil, List.append_nil] at hk
  have hkl := Z3w (vVtx n)
  obtain ⟨v1, st1, h1, h2, h3⟩ := hk ⟨st.next, st.next, st.toks⟩ _ [4] rfl (.lit _ _) (by simp; omega)
  obtain ⟨v2, st2, k1, k2, k3⟩ := labelledR hp ⟨st1.next, st1.next, st1.toks⟩ v1 ([4] ++ kB (vVtx n)) rfl h2 (by simp; omega)
  have hv := run_VVertex n
  have g1 : Grow st .nilSl ⟨st.base, st1.next, st1.toks⟩ v1 := grow_lit (Grow.re (b := 0) h3)
  have g2 : Grow ⟨st.base, st1.next, st1.toks⟩ v1 ⟨st.base, st2.next, st2.toks⟩ v2 := Grow.re (st := ⟨st.base, st1.next, st1.toks⟩) (b := 0) k3
  refine Z1f rfl rfl ?_
  repeat' first | refine Z0k rfl rfl ?_ | refine V_O rfl ?_ | ((with_reducible show VO _ _ _ _ _ _ _); first | refine Z0u rfl rfl hv ?_ | refine Z0s h1 h3.1 rfl rfl ?_ | refine Z0s k1 k3.1 rfl rfl ?_ | refine Z02 rfl ?_ | refine Z03 ?_)
  exact ⟨k2, g1.trans g2⟩
end Go.Proofs.YtgdjnlopdpjnaaaGreatDoor
set_option linter.unusedVariables false
set_option linter.unusedSimpArgs false
namespace Go.Proofs.YtgdjnlopdpjnaaaGreatDoor
open Go Go.AM Go.RowKit
theorem bv_take {q : PV} {b : List UInt8} (h : BV q b) {n : Nat} (hn : n ≤ b.length) : ∃ q', (∀ look, sliceSl? look 1 none (some (.int .i64 (n : Int))) none q = some q') ∧ BV q' (b.take n) := by
  cases h with
  | nil =>
    have : n = 0 := by simpa using hn
    subst this
    exact ⟨.nilSl, fun look => by simp [sliceSl?, bound?, lenOf], .nil⟩
  | sl s f =>
    refine ⟨_, fun look => slice_hi (Z2x _) (by omega) (by rw [Z07]; omega), ?_⟩
    have : (Z00 b).take (n : Int).toNat = Z00 (b.take n) := by simp [Z00, List.map_take]
    rw [this]
    exact .sl _ _
theorem VC.form2 {v : Val} {cs : List PV} (h : VC v cs) : ∃ s q, cs = [.int .i64 v.kind, .int .i64 v.n, .str s, q] ∧ Pl q := by
  have hp := h.pl
  cases h
  all_goals exact ⟨_, _, rfl, hp _ (by simp)⟩
theorem call_keyNil {v : Val} {cs : List PV} (hv : VC v cs) : ∃ q, T.R (.call n_keys_key [.nilSl, .sl [cs] true] q) ∧ BV q (kB v) := by
  have hk := keyK (lc_one hv true)
  rw [List.flatMap_cons, List.flatMap_nil, List.append_nil] at hk
  obtain ⟨v1, st1, h1, h2, _⟩ := hk emptySt .nilSl [] rfl (.nil _) (by have := Z3w v; simp; omega)
  obtain ⟨q, k1, k2⟩ := AB.view h2
  exact ⟨q, call_of_raw h1 k1, k2⟩
theorem minU {n : Nat} : PV.int .i64 (if (40 : Int) < (n : Int) then 40 else (n : Int)) = PV.int .i64 ((min 40 n : Nat) : Int) := Z3x (by split <;> omega)
theorem signR {v : Val} {cs : List PV} (hv : VC v cs) (hlen : (putM v).length ≤ 100000000000000) : MakesB T n_keys_Sign [.agg cs] (signB v) := by
  intro st hbn
  obtain ⟨s, vq, hcs, hpq⟩ := hv.form2
  obtain ⟨b, hb⟩ : ∃ b, b = if v.kind = 4 ∨ v.kind = 5 then putM v else kB v := ⟨_, rfl⟩
  have hsb : signB v = UInt8.ofNat (b.take 40).length :: b.take 40 := by rw [hb]; rfl
  have htk : b.take 40 = b.take (min 40 b.length) := by
    rcases Nat.le_total 40 b.length with h | h
    · rw [Nat.min_eq_left h]
    · rw [Nat.min_eq_right h, List.take_of_length_le h, List.take_of_length_le (Nat.le_refl _)]
  have fin : ∀ q, BV q b → ∃ q', (∀ look, sliceSl? look 1 none (some (.int .i64 ((min 40 b.length : Nat) : Int))) none q = some q') ∧ BV q' (b.take 40) := fun q hq => by
    rw [htk]
    exact bv_take hq (Nat.min_le_right _ _)
  have hl40 : (b.take 40).length ≤ 40 := by rw [List.length_take]; omega
  have e2 : PV.int .u8 (IntKind.u8.wrap ((b.take 40).length : Int)) = PV.int .u8 ((UInt8.ofNat (b.take 40).length).toNat : Int) := by
    rw [wrapU8]
    congr 3
    have h1 : ((b.take 40).length : Int) % 256 = ((b.take 40).length : Int) := by omega
    rw [h1]
    rfl
  have e1 := minU (n := b.length)
  obtain ⟨v', st', k1, k2, k3⟩ := (AB.lit (st.new (.var cs)) [UInt8.ofNat (b.take 40).length]).app (t := b.take 40) (by simp; omega)
  have hG : Grow st .nilSl st' v' := grow_lit ((Grow_new st (.sl (Z00 [UInt8.ofNat (b.take 40).length]) true) (.var cs)).trans k3)
  have hend : AB st' v' (signB v) ∧ Grow st .nilSl st' v' := ⟨by rw [hsb]; exact k2, hG⟩
  obtain ⟨qp, hp1, hp2⟩ := run_PutM hv hlen
  obtain ⟨qk, hk1, hk2⟩ := call_keyNil hv
  have hg : (st.new (.var cs)).get st.next = some (.var cs) := St.get_new
  subst hcs
  refine Z1f rfl rfl ?_
  by_cases h4 : v.kind = 4
  · have hbp : b = putM v := by rw [hb, if_pos (.inl h4)]
    rw [← hbp] at hp2
    obtain ⟨q', f1, f2⟩ := fin _ hp2
    have hpl := hp2.pl
    have d4 := Z13 (p := v.kind = 4) h4
    repeat' first | ((with_reducible show V _ _ _ _ _ _); first | refine Z0k rfl rfl hend | refine V_O rfl ?_ | refine Z16 rfl rfl ?_) | ((with_reducible show VO _ _ _ _ _ _ _); first | refine Z0a rfl hg rfl ?_ | refine Z1p rfl hg rfl ?_ | refine Z0q d4 rfl ?_ | refine Z0u rfl rfl hp1 ?_ | refine Z0z rfl hp2 ?_ | refine Z0q e1 rfl ?_ | refine Z02 (f1 _) ?_ | refine Z0z rfl f2 ?_ | refine Z0q e2 rfl ?_ | refine Z09 rfl rfl (Z0j f2) (Z04 _) (by decide) (by decide) k1 ?_ | refine Z02 rfl ?_ | refine Z05 rfl ?_ | refine Z03 ?_)
  · have d4 := Z0n (p := v.kind = 4) h4
    by_cases h5 : v.kind = 5
    · have hbp : b = putM v := by rw [hb, if_pos (.inr h5)]
      rw [← hbp] at hp2
      obtain ⟨q', f1, f2⟩ := fin _ hp2
      have hpl := hp2.pl
      have d5 := Z13 (p := v.kind = 5) h5
      repeat' first | ((with_reducible show V _ _ _ _ _ _); first | refine Z0k rfl rfl hend | refine V_O rfl ?_ | refine Z16 rfl rfl ?_ | refine Z1e rfl rfl ?_) | ((with_reducible show VO _ _ _ _ _ _ _); first | refine Z0a rfl hg rfl ?_ | refine Z1p rfl hg rfl ?_ | refine Z0q d4 rfl ?_ | refine Z0q d5 rfl ?_ | refine Z0u rfl rfl hp1 ?_ | refine Z0z rfl hp2 ?_ | refine Z0q e1 rfl ?_ | refine Z02 (f1 _) ?_ | refine Z0z rfl f2 ?_ | refine Z0q e2 rfl ?_ | refine Z09 rfl rfl (Z0j f2) (Z04 _) (by decide) (by decide) k1 ?_ | refine Z02 rfl ?_ | refine Z05 rfl ?_ | refine Z03 ?_)
    · have hbp : b = kB v := by rw [hb, if_neg (by simp [h4, h5])]
      rw [← hbp] at hk2
      obtain ⟨q', f1, f2⟩ := fin _ hk2
      have hpl := hk2.pl
      have d5 := Z0n (p := v.kind = 5) h5
      repeat' first | ((with_reducible show V _ _ _ _ _ _); first | refine Z0k rfl rfl hend | refine V_O rfl ?_ | refine Z1e rfl rfl ?_) | ((with_reducible show VO _ _ _ _ _ _ _); first | refine Z0a rfl hg rfl ?_ | refine Z1p rfl hg rfl ?_ | refine Z0q d4 rfl ?_ | refine Z0q d5 rfl ?_ | refine Z0u rfl rfl hk1 ?_ | refine Z0z rfl hk2 ?_ | refine Z0q e1 rfl ?_ | refine Z02 (f1 _) ?_ | refine Z0z rfl f2 ?_ | refine Z0q e2 rfl ?_ | refine Z09 rfl rfl (Z0j f2) (Z04 _) (by decide) (by decide) k1 ?_ | refine Z02 rfl ?_ | refine Z05 rfl ?_ | refine Z03 ?_)
def VA (p : PV) (t : List UInt8) : Prop := (p = .nilSl ∧ t = []) ∨ ∃ (v : Val) (cs : List PV), p = .sl [cs] true ∧ VC v cs ∧ (putM v).length ≤ 100000000000000 ∧ t = signB v
theorem sign_len (v : Val) : (signB v).length ≤ 41 := by
  simp only [signB, List.length_cons, List.length_take]
  omega
theorem propR {kind : Int} {name : List UInt8} {p : PV} {t : List UInt8} (hn : name.length ≤ 140737488355328) (hp : VA p t) : MakesB T n_keys_Prop [.int .i64 kind, .str name, p] ([6, UInt8.ofNat (kind % 256).toNat] ++ kB (vStr name) ++ t) := by
  intro st hbn
  have hk := keyK (lc_one (vc_str hn) true)
  rw [List.flatMap_cons, List.flatMap_nil, List.append_nil] at hk
  have hkl := Z3w (vStr name)
  obtain ⟨v1, st1, h1, h2, h3⟩ := hk ⟨st.next, st.next, st.toks⟩ _ [6, UInt8.ofNat (kind % 256).toNat] rfl (.lit _ _) (by simp; omega)
  have e1 := wrapU8 kind
  have hstr := run_VStr name
  have hA : AB ⟨st.base, st1.next, st1.toks⟩ v1 ([6, UInt8.ofNat (kind % 256).toNat] ++ kB (vStr name)) := h2
  have g1 : Grow st .nilSl ⟨st.base, st1.next, st1.toks⟩ v1 := grow_lit (Grow.re (b := 0) h3)
  rcases hp with ⟨rfl, rfl⟩ | ⟨v, cs, rfl, hv, hlen, rfl⟩
  · refine Z1f rfl rfl ?_
    repeat' first | ((with_reducible show V _ _ _ _ _ _); first | refine Z0k rfl rfl ?_ | refine V_O rfl ?_ | refine Z1e rfl rfl ?_) | ((with_reducible show VO _ _ _ _ _ _ _); first | refine Z0q e1 rfl ?_ | refine Z0u rfl rfl hstr ?_ | refine Z0s h1 h3.1 rfl rfl ?_ | refine Z02 rfl ?_ | refine Z03 ?_)
    exact ⟨by rw [List.append_nil]; exact hA, g1⟩
  · obtain ⟨s, vq, hcs, hpq⟩ := hv.form2
    obtain ⟨qs, q1, q2⟩ := (signR hv hlen).call
    have hsl := sign_len v
    obtain ⟨v2, st2, k1, k2, k3⟩ := hA.app (t := signB v) (by simp; omega)
    subst hcs
    refine Z1f rfl rfl ?_
    repeat' first | ((with_reducible show V _ _ _ _ _ _); first | refine Z0k rfl rfl ?_ | refine V_O rfl ?_ | refine Z16 rfl rfl ?_) | ((with_reducible show VO _ _ _ _ _ _ _); first | refine Z0q e1 rfl ?_ | refine Z0u rfl rfl hstr ?_ | refine Z0s h1 h3.1 rfl rfl ?_ | refine Z0u rfl rfl q1 ?_ | refine Z09 rfl rfl (Z0j q2) (Z04 _) (by decide) (by decide) k1 ?_ | refine Z02 rfl ?_ | refine Z03 ?_)
    exact ⟨k2, g1.trans k3⟩
theorem run_badId {n : Int} : T.R (.call n_keys_badId [.int .i64 n] (.bool (!idB n))) := by
  refine Z0c rfl rfl ?_
  by_cases h1 : n < 1
  · have d1 := Z13 (p := n < 1) h1
    have hb : idB n = false := by simp [idB]; omega
    rw [hb]
    repeat' first | refine V_O rfl ?_ | refine Z1t rfl rfl ?_ | ((with_reducible show VO _ _ _ _ _ _ _); first | refine Z0q d1 rfl ?_ | refine Z02 rfl ?_ | refine Z03 ?_ | refine Z1j rfl rfl ?_)
    rfl
  · have d1 := Z0n (p := n < 1) h1
    by_cases h2 : 281474976710656 < n
    · have d2 := Z13 (p := (281474976710656 : Int) < n) h2
      have hb : idB n = false := by simp [idB]; omega
      rw [hb]
      repeat' first | refine V_O rfl ?_ | refine Z1t rfl rfl ?_ | ((with_reducible show VO _ _ _ _ _ _ _); first | refine Z0q d1 rfl ?_ | refine Z0q d2 rfl ?_ | refine Z02 rfl ?_ | refine Z03 ?_ | refine Z10 rfl ?_)
      rfl
    · have d2 := Z0n (p := (281474976710656 : Int) < n) h2
      have hb : idB n = true := by simp [idB]; omega
      rw [hb]
      repeat' first | refine V_O rfl ?_ | refine Z1t rfl rfl ?_ | ((with_reducible show VO _ _ _ _ _ _ _); first | refine Z0q d1 rfl ?_ | refine Z0q d2 rfl ?_ | refine Z02 rfl ?_ | refine Z03 ?_ | refine Z10 rfl ?_)
      rfl
theorem keyOneR {v : Val} {cs : List PV} (hv : VC v cs) : MakesB T n_keys_Key [.agg cs] (Z35 v) := by
  intro st hbn
  obtain ⟨s, vq, hcs, hpq⟩ := hv.form2
  have hchk := run_Check hv
  have hg : (st.new (.var cs)).get st.next = some (.var cs) := St.get_new
  have hG0 : Grow st .nilSl (st.new (.var cs)) .nilSl := Grow_new st .nilSl (.var cs)
  have hkl := Z3w v
  have hk := keyK (lc_one hv true)
  rw [List.flatMap_cons, List.flatMap_nil, List.append_nil] at hk
  obtain ⟨v1, st1, h1, h2, h3⟩ := hk ⟨(st.new (.var cs)).next, (st.new (.var cs)).next, (st.new (.var cs)).toks⟩ _ [1] rfl (.lit _ _) (by simp; omega)
  obtain ⟨v2, st2, k1, k2, k3⟩ := hk ⟨(st.new (.var cs)).next, (st.new (.var cs)).next, (st.new (.var cs)).toks⟩ _ [2] rfl (.lit _ _) (by simp; omega)
  have g1 : Grow st .nilSl ⟨st.base, st1.next, st1.toks⟩ v1 := hG0.trans (grow_lit (Grow.re (st := st.new (.var cs)) (b := 0) h3))
  have g2 : Grow st .nilSl ⟨st.base, st2.next, st2.toks⟩ v2 := hG0.trans (grow_lit (Grow.re (st := st.new (.var cs)) (b := 0) k3))
  refine Z1f rfl rfl ?_
  by_cases hm : Z21 8 v = true
  · have hc0 : chk v = 0 := by simp [chk, hm]
    rw [hc0] at hchk
    by_cases h6 : v.kind = 6
    · have d6 := Z13 (p := v.kind = 6) h6
      have he : Z35 v = [1] ++ kB v := by simp [Z35, hm, h6]
      rw [he]
      subst hcs
      repeat' first | ((with_reducible show V _ _ _ _ _ _); first | refine Z0k rfl rfl ⟨h2, g1⟩ | refine V_O rfl ?_ | refine Z16 rfl rfl ?_ | refine Z1e rfl rfl ?_) | ((with_reducible show VO _ _ _ _ _ _ _); first | refine Z0a rfl hg rfl ?_ | refine Z1p rfl hg rfl ?_ | refine Z0u rfl rfl hchk ?_ | refine Z0q d6 rfl ?_ | refine Z0s h1 h3.1 rfl rfl ?_ | refine Z02 rfl ?_ | refine Z05 rfl ?_ | refine Z03 ?_)
    · have d6 := Z0n (p := v.kind = 6) h6
      by_cases h7 : v.kind = 7
      · have d7 := Z13 (p := v.kind = 7) h7
        have he : Z35 v = [2] ++ kB v := by simp [Z35, hm, h7]
        rw [he]
        subst hcs
        repeat' first | ((with_reducible show V _ _ _ _ _ _); first | refine Z0k rfl rfl ⟨k2, g2⟩ | refine V_O rfl ?_ | refine Z16 rfl rfl ?_ | refine Z1e rfl rfl ?_) | ((with_reducible show VO _ _ _ _ _ _ _); first | refine Z0a rfl hg rfl ?_ | refine Z1p rfl hg rfl ?_ | refine Z0u rfl rfl hchk ?_ | refine Z0q d6 rfl ?_ | refine Z0q d7 rfl ?_ | refine Z0s k1 k3.1 rfl rfl ?_ | refine Z02 rfl ?_ | refine Z05 rfl ?_ | refine Z03 ?_)
      · have d7 := Z0n (p := v.kind = 7) h7
        have he : Z35 v = [] := by simp [Z35, hm, h6, h7]
        rw [he]
        subst hcs
        repeat' first | ((with_reducible show V _ _ _ _ _ _); first | refine Z0k rfl rfl ⟨.nil _, hG0⟩ | refine V_O rfl ?_ | refine Z1e rfl rfl ?_) | ((with_reducible show VO _ _ _ _ _ _ _); first | refine Z0a rfl hg rfl ?_ | refine Z1p rfl hg rfl ?_ | refine Z0u rfl rfl hchk ?_ | refine Z0q d6 rfl ?_ | refine Z0q d7 rfl ?_ | refine Z02 rfl ?_ | refine Z05 rfl ?_ | refine Z03 ?_)
  · have hc0 : chk v = 20 := by simp [chk, hm]
    rw [hc0] at hchk
    have he : Z35 v = [] := by simp [Z35, hm]
    rw [he]
    subst hcs
    repeat' first | ((with_reducible show V _ _ _ _ _ _); first | refine Z0k rfl rfl ⟨.nil _, hG0⟩ | refine V_O rfl ?_ | refine Z16 rfl rfl ?_) | ((with_reducible show VO _ _ _ _ _ _ _); first | refine Z1p rfl hg rfl ?_ | refine Z0u rfl rfl hchk ?_ | refine Z02 rfl ?_ | refine Z05 rfl ?_ | refine Z03 ?_)
end Go.Proofs.YtgdjnlopdpjnaaaGreatDoor
set_option linter.unusedVariables false
set_option linter.unusedSimpArgs false
namespace Go.Proofs.YtgdjnlopdpjnaaaGreatDoor
open Go Go.AM Go.RowKit
def BO (st : St) (p : PV) (s : List UInt8) : Prop := BV p s ∨ AccT 1 st p (Z00 s)
theorem BO.of {st : St} {p : PV} {s : List UInt8} (h : AB st p s) : BO st p s := by
  rcases h with rfl | h
  · exact .inl (.sl s true)
  · exact .inr h
theorem BO.one {st : St} {p : PV} {s : List UInt8} (h : BO st p s) : PV.one p = true := by
  rcases h with h | h
  · cases h <;> rfl
  · rcases h with ⟨rfl, _⟩ | ⟨t, g, rfl, _⟩ <;> rfl
theorem BO.keep {st st' : St} {p : PV} {s : List UInt8} (h : BO st p s) (hn : st.next ≤ st'.next) (hk : ∀ u g, u < st.next → st.get u = some (.row g 1 (Z00 s) true) → st'.get u = st.get u) : BO st' p s := by
  rcases h with h | ⟨rfl, h⟩ | ⟨t, g, rfl, h1, h2⟩
  · exact .inl h
  · exact .inr (.inl ⟨rfl, h⟩)
  · exact .inr (.inr ⟨t, g, rfl, by rw [hk t g h2 h1]; exact h1, by omega⟩)
abbrev Ent := List UInt8 × List UInt8
def EntsR (st : St) (es : List (List PV)) (l : List Ent) : Prop := es.length = l.length ∧ ∀ (j : Nat) (cs : List PV) (x : Ent), es[j]? = some cs → l[j]? = some x → ∃ p q, cs = [p, q] ∧ BO st p x.1 ∧ BO st q x.2
theorem EntsR.nil (st : St) : EntsR st [] [] := ⟨rfl, fun j cs x h => by simp at h⟩
theorem EntsR.keep {st st' : St} {es : List (List PV)} {l : List Ent} (h : EntsR st es l) (hn : st.next ≤ st'.next) (hk : ∀ u g cs, u < st.next → st.get u = some (.row g 1 cs true) → st'.get u = st.get u) : EntsR st' es l :=
  ⟨h.1, fun j cs x h1 h2 => by
    obtain ⟨p, q, e, b1, b2⟩ := h.2 j cs x h1 h2
    exact ⟨p, q, e, b1.keep hn (fun u g => hk u g _), b2.keep hn (fun u g => hk u g _)⟩⟩
theorem EntsR.snoc {st : St} {es : List (List PV)} {l : List Ent} (h : EntsR st es l) {p q : PV} {x : Ent} (h1 : BO st p x.1) (h2 : BO st q x.2) : EntsR st (es ++ [[p, q]]) (l ++ [x]) :=
  ⟨by simp [h.1], fun j cs y hj hy => by
    rcases Nat.lt_or_ge j l.length with hlt | hge
    · rw [List.getElem?_append_left (by rw [h.1]; exact hlt)] at hj
      rw [List.getElem?_append_left hlt] at hy
      exact h.2 j cs y hj hy
    · rw [List.getElem?_append_right (by rw [h.1]; exact hge), h.1] at hj
      rw [List.getElem?_append_right hge] at hy
      cases hz : j - l.length with
      | zero => rw [hz] at hj hy; simp at hj hy; subst hj hy; exact ⟨p, q, rfl, h1, h2⟩
      | succ n => rw [hz] at hj; simp at hj⟩
theorem EntsR.all {st : St} {es : List (List PV)} {l : List Ent} (h : EntsR st es l) : Z1i 2 es = true := by
  unfold Z1i
  rw [List.all_eq_true]
  intro cs hcs
  obtain ⟨j, hj⟩ := List.getElem?_of_mem hcs
  have hlt : j < l.length := by rw [← h.1]; exact (List.getElem?_eq_some_iff.1 hj).1
  obtain ⟨p, q, rfl, _⟩ := h.2 j cs l[j] hj (List.getElem?_eq_getElem hlt)
  rfl
def EA (st : St) (v : PV) (l : List Ent) : Prop := ∃ es, EntsR st es l ∧ (v = .sl es true ∨ AccT 2 st v es)
theorem EA.keep {st st' : St} {v : PV} {l : List Ent} (h : EA st v l) (hn : st.next ≤ st'.next) (hk : ∀ u, u < st.next → st'.get u = st.get u) : EA st' v l := by
  obtain ⟨es, h1, h2⟩ := h
  refine ⟨es, h1.keep hn (fun u g cs hu _ => hk u hu), ?_⟩
  rcases h2 with h2 | ⟨rfl, h2⟩ | ⟨t, g, rfl, h3, h4⟩
  · exact .inl h2
  · exact .inr (.inl ⟨rfl, h2⟩)
  · exact .inr (.inr ⟨t, g, rfl, by rw [hk t h4]; exact h3, by omega⟩)
theorem EA.app {st : St} {v : PV} {l : List Ent} (h : EA st v l) {p q : PV} {x : Ent} (h1 : BO st p x.1) (h2 : BO st q x.2) (hl : l.length ≤ 1000000000000) : ∃ v' st', Z0w st 2 48 v [[p, q]] = some (v', st') ∧ EA st' v' (l ++ [x]) ∧ Grow st v st' v' := by
  obtain ⟨es, he, hv⟩ := h
  have hs := he.snoc h1 h2
  rcases hv with rfl | hA
  · refine ⟨_, _, appendTo_full (by simp) (by rw [he.1]; simp only [List.length_singleton, Z0e]; omega) he.all, ⟨_, hs.keep (by simp [St.new]) (fun u g cs hu _ => St.get_new_old hu), .inr (.inr ⟨st.next, 0, by simp, St.get_new, by simp [St.new]⟩)⟩, rfl, by simp [St.new], .inr ⟨st.next, rfl, Nat.le_refl _⟩, fun u hu _ => St.get_new_old hu⟩
  · obtain ⟨v', st', k1, k2, k3⟩ := hA.grow (bytes := 48) (src := [[p, q]]) (by simp) (by rw [he.1]; simp only [List.length_singleton, Z0e]; omega)
    refine ⟨v', st', k1, ⟨_, hs.keep k3.2.1 (fun u g cs hu hg => k3.2.2.2 u hu (fun ht => ?_)), .inr k2⟩, k3⟩
    rcases hA with ⟨rfl, _⟩ | ⟨t, g', rfl, h3, h4⟩
    · cases ht
    · injection ht with ht
      subst ht
      rw [hg] at h3
      injection h3 with h3
      injection h3 with _ h3
      cases h3
end Go.Proofs.YtgdjnlopdpjnaaaGreatDoor

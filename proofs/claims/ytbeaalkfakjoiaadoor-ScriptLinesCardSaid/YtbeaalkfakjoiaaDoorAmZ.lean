/- The abstract machine: AM33: a place of a row of one's own, read and written. · AM34: rows that are made and copied into. · AM35: bytes appended to a row of one's own, whatever its place; a variable written whole; the slice of an array. · AM36: calls that are handed what is one's own: what they leave alone. · AM37: a variable of one's own, read in a drawn region with one loud operation. · AM38: readings of byte slices. · AM39: drawn regions with two loud operations, the later of which looks at what the first answers: the steps. · AM40: steps whose answer is said otherwise. · AM41: a call that is handed what is one's own, which is no longer changed behind it. · AM42: calls and ends whose plain values need no word. · AM43: loops told by lists of temporaries. · AM44: entries without a body, over texts: where a byte stands, how often. · AM45: drawn regions with two stores that do not look at one another: the steps. -/
import Derived.Test.YtbeaalkfakjoiaaDoorAmE
set_option linter.unusedSectionVars false
set_option linter.unusedVariables false
set_option linter.unusedSimpArgs false
namespace Go.AM
open Go.RowKit
section
variable {T : Tb} {Q : Post} {k : List Fr} {ρ : EC} {st : St} {l : List POp} {kill : List Nat}
theorem O_storeR {a x : Opd} {t g i sz : Nat} {es : List (List PV)} {c : PV} {q : PV} (ha : a.get ρ = some (.rptr t g i 0)) (hx : x.get ρ = some q) (h1 : q.cells = [q]) (h2 : PV.one q = true) (hg : st.get t = some (.row g sz es true)) (hc : es[i]? = some [c]) (h : VO T Q l kill k (ρ.sets none (.tuple [])) (st.put t (.row g sz (es.set i [q]) true))) : VO T Q (⟨none, none, .store 1 a x⟩ :: l) kill k ρ st :=
  O_storeV ha hx (by rw [h1]; simp [h2]) (by rw [h1]; rfl) rfl (by
    simp only [storeAt, hg, hc, h1]
    simp [splice]) h
end
theorem byteCells_get {s : List UInt8} {i : Nat} {b : UInt8} (h : s[i]? = some b) : (byteCells s)[i]? = some [.int .u8 b.toNat] := by
  simp [byteCells, h]
theorem BV.at {v : PV} {s : List UInt8} (h : BV v s) {n : Int} (h0 : 0 ≤ n) {b : UInt8} (hb : s[n.toNat]? = some b) : At 1 v n [.int .u8 b.toNat] := by
  cases h with
  | nil => simp at hb
  | sl s f => exact ⟨h0, rfl, _, _, rfl, byteCells_get hb⟩
end Go.AM
set_option linter.unusedVariables false
set_option linter.unusedSimpArgs false
namespace Go.AM
open Go.RowKit
section
variable {T : Tb} {Q : Post} {k : List Fr} {ρ : EC} {st A B : St} {l : List POp} {kill : List Nat} {m j : Nat}
theorem O_make {d : Option Nat} {sz bytes : Nat} {zero : List PV} {len cap : Opd} {k1 k2 : IntKind} {n : Int} (hl : len.get ρ = some (.int k1 n)) (hc : cap.get ρ = some (.int k2 n)) (hz : zero.length = sz) (h0 : 0 ≤ n) (hr : n * bytes ≤ roomLen)
    (h : VO T Q l kill k (ρ.sets d (.osl st.next 0 0 n.toNat false)) (st.new (.row 0 sz (List.replicate n.toNat zero) true))) : VO T Q (⟨d, none, .makeSl sz zero bytes len cap⟩ :: l) kill k ρ st := by
  refine O_stepL ?_ h
  simp only [stepL, hl, hc]
  rw [if_pos ⟨hz, h0, Int.le_refl _, hr⟩]
theorem O_makeN {d : Option Nat} {sz bytes : Nat} {zero : List PV} {len cap : Opd} {k1 k2 : IntKind} {n : Int} {N : Nat} (hl : len.get ρ = some (.int k1 n)) (hc : cap.get ρ = some (.int k2 n)) (hn : n = (N : Int)) (hz : zero.length = sz) (hr : N * bytes ≤ roomLen)
    (h : VO T Q l kill k (ρ.sets d (.osl st.next 0 0 N false)) (st.new (.row 0 sz (List.replicate N zero) true))) : VO T Q (⟨d, none, .makeSl sz zero bytes len cap⟩ :: l) kill k ρ st := by
  subst hn
  exact O_make hl hc hz (by omega) (by exact_mod_cast hr) h
theorem V_cH {x : EX} {k' : List Fr} {c : Opd} {a b : PC} {t : Bool} (ht : t = false) (ha : adv 200 k x = (.code (.cond c a b) :: k', .normal)) (hc : c.get ρ = some (.bool t)) (h1 : V T Q (.code b :: k') .normal ρ st) : V T Q k x ρ st := V_cF ha (by rw [hc, ht]) h1
theorem V_cHT {x : EX} {k' : List Fr} {c : Opd} {a b : PC} {t : Bool} (ht : t = true) (ha : adv 200 k x = (.code (.cond c a b) :: k', .normal)) (hc : c.get ρ = some (.bool t)) (h1 : V T Q (.code a :: k') .normal ρ st) : V T Q k x ρ st := V_cT ha (by rw [hc, ht]) h1
end
end Go.AM
set_option linter.unusedVariables false
set_option linter.unusedSimpArgs false
namespace Go.AM
open Go.RowKit
end Go.AM
set_option linter.unusedVariables false
set_option linter.unusedSimpArgs false
namespace Go.AM
open Go.RowKit
theorem St.get_new {st : St} {k : Tok} : (st.new k).get st.next = some k := by simp [St.get, St.new, getA_putA]
def Grow (st : St) (v : PV) (st' : St) (v' : PV) : Prop := st'.base = st.base ∧ st.next ≤ st'.next ∧ (tokOf v' = tokOf v ∨ ∃ n, tokOf v' = some n ∧ st.next ≤ n) ∧ ∀ u, u < st.next → tokOf v ≠ some u → st'.get u = st.get u
theorem Grow.refl (st : St) (v : PV) : Grow st v st v := ⟨rfl, Nat.le_refl _, .inl rfl, fun _ _ _ => rfl⟩
theorem Grow.trans {st st1 st2 : St} {v v1 v2 : PV} (h : Grow st v st1 v1) (k : Grow st1 v1 st2 v2) : Grow st v st2 v2 := by
  obtain ⟨a1, a2, a3, a4⟩ := h
  obtain ⟨b1, b2, b3, b4⟩ := k
  refine ⟨b1.trans a1, Nat.le_trans a2 b2, ?_, fun u hu hv => ?_⟩
  · rcases b3 with b3 | ⟨n, b3, b5⟩
    · rcases a3 with a3 | ⟨n, a3, a5⟩
      · exact .inl (b3.trans a3)
      · exact .inr ⟨n, b3.trans a3, a5⟩
    · exact .inr ⟨n, b3, by omega⟩
  · rw [b4 u (by omega) ?_, a4 u hu hv]
    rcases a3 with a3 | ⟨n, a3, a5⟩
    · rw [a3]; exact hv
    · rw [a3]; intro e; injection e; omega
theorem AccT.grow {sz bytes : Nat} {st : St} {v : PV} {es src : List (List PV)} (h : AccT sz st v es) (hne : src ≠ []) (hr : (es.length + src.length) * bytes ≤ roomLen) :
    ∃ v' st', appendTo st sz bytes v src = some (v', st') ∧ AccT sz st' v' (es ++ src) ∧ Grow st v st' v' := by
  obtain ⟨v', st', h1, h2, h3, h4, h5, h6⟩ := h.append hne hr
  refine ⟨v', st', h1, h2, h3, h4, ?_, fun u hu hv => h6 u ?_⟩
  · rcases h5 with h5 | ⟨_, h5⟩
    · exact .inl h5
    · exact .inr ⟨_, h5, Nat.le_refl _⟩
  · rcases h5 with h5 | ⟨_, h5⟩
    · rw [h5]; exact hv
    · rw [h5]; intro e; injection e; omega
def RB (st : St) (v : PV) (s : List UInt8) : Prop := (v = .nilSl ∧ s = []) ∨ (∃ f, v = .sl (byteCells s) f) ∨ ∃ t g lv, v = .osl t g 0 (byteCells s).length false ∧ st.get t = some (.row g 1 (byteCells s) lv) ∧ t < st.next
theorem RB.src {st : St} {v : PV} {s : List UInt8} (h : RB st v s) : srcOf st v = some (byteCells s) := by
  rcases h with ⟨rfl, rfl⟩ | ⟨f, rfl⟩ | ⟨t, g, lv, rfl, hg, _⟩
  · rfl
  · rfl
  · simp only [srcOf, elemsOf, hg]
    rw [if_pos ⟨trivial, by omega⟩]
    simp
theorem RB.keep {st st' : St} {v : PV} {s : List UInt8} (h : RB st v s) (hn : st.next ≤ st'.next) (hk : ∀ u, tokOf v = some u → st'.get u = st.get u) : RB st' v s := by
  rcases h with ⟨rfl, rfl⟩ | ⟨f, rfl⟩ | ⟨t, g, lv, rfl, hg, hlt⟩
  · exact .inl ⟨rfl, rfl⟩
  · exact .inr (.inl ⟨f, rfl⟩)
  · exact .inr (.inr ⟨t, g, lv, rfl, by rw [hk t rfl]; exact hg, by omega⟩)
theorem RB.lt {st : St} {v : PV} {s : List UInt8} (h : RB st v s) {u : Nat} (hu : tokOf v = some u) : u < st.next := by
  rcases h with ⟨rfl, rfl⟩ | ⟨f, rfl⟩ | ⟨t, g, lv, rfl, hg, hlt⟩
  · cases hu
  · cases hu
  · injection hu with hu; omega
end Go.AM
set_option linter.unusedVariables false
set_option linter.unusedSimpArgs false
namespace Go.AM
open Go.RowKit
end Go.AM
set_option linter.unusedVariables false
set_option linter.unusedSimpArgs false
namespace Go.AM
open Go.RowKit
end Go.AM
set_option linter.unusedVariables false
set_option linter.unusedSimpArgs false
namespace Go.AM
open Go.RowKit
end Go.AM
set_option linter.unusedVariables false
set_option linter.unusedSimpArgs false
namespace Go.AM
open Go.RowKit
section
variable {T : Tb} {Q : Post} {k : List Fr} {ρ : EC} {st : St} {l : List POp} {kill : List Nat}
theorem O_is {d : Option Nat} {op : PI} {p p' : PV} (he : p = p') (hq : stepQ st.get ρ op = some p) (h : VO T Q l kill k (ρ.sets d p') st) : VO T Q (⟨d, none, op⟩ :: l) kill k ρ st := by
  subst he
  exact O_step hq h
theorem D_is {d : Option Nat} {op : PI} {p p' : PV} (he : p = p') (hq : stepQ st.get ρ op = some p) (h : VD T Q l kill k (ρ.sets d p') st) : VD T Q (⟨d, none, op⟩ :: l) kill k ρ st := by
  subst he
  exact D_step hq h
theorem dec_is {p : Prop} [Decidable p] (h : p) : PV.bool (decide p) = PV.bool true := by rw [decide_eq_true h]
theorem dec_not {p : Prop} [Decidable p] (h : ¬ p) : PV.bool (decide p) = PV.bool false := by rw [decide_eq_false h]
theorem ndec_is {p : Prop} [Decidable p] (h : p) : PV.bool (!decide p) = PV.bool false := by rw [decide_eq_true h]; rfl
theorem ndec_not {p : Prop} [Decidable p] (h : ¬ p) : PV.bool (!decide p) = PV.bool true := by rw [decide_eq_false h]; rfl
theorem int_is {k : IntKind} {a b : Int} (h : a = b) : PV.int k a = PV.int k b := by rw [h]
end
end Go.AM
set_option linter.unusedVariables false
set_option linter.unusedSimpArgs false
namespace Go.AM
open Go.RowKit
end Go.AM
set_option linter.unusedVariables false
set_option linter.unusedSimpArgs false
namespace Go.AM
open Go.RowKit
section
variable {T : Tb} {Q : Post} {k : List Fr} {ρ : EC} {st A B : St} {l : List POp} {kill : List Nat} {m j : Nat}
theorem O_cA {d : Option Nat} {f : Opd} {xs : List Opd} {g : Nat} {caps vals : List PV} {r : PV} (hf : f.get ρ = some (.func g caps)) (hx : gets ρ xs = some vals) (hc : T.R (.call g (vals ++ caps) r)) (h : VO T Q l kill k (ρ.sets d r) st)
    (hp : ∀ c ∈ vals ++ caps, Pl c := by (repeat' (first | exact Pl.int _ _ | exact Pl.bool _ | exact Pl.str _ | exact Pl.nilSl | exact pl_nil | refine pl_cons ?_ ?_ | refine Pl.tuple _ ?_ | refine Pl.agg _ ?_ | refine Pl.func _ _ ?_ | assumption | refine Pl.iptr _ _ ?_ | exact pll_nil | refine pll_cons ?_ ?_ | refine Pl.sl _ _ ?_)); first | done | fail) : VO T Q (⟨d, none, .call f xs⟩ :: l) kill k ρ st :=
  O_callP hf hx (viewL_pl hp) hc h
theorem D_cA {d : Option Nat} {f : Opd} {xs : List Opd} {g : Nat} {caps vals : List PV} {r : PV} (hf : f.get ρ = some (.func g caps)) (hx : gets ρ xs = some vals) (hc : T.R (.call g (vals ++ caps) r)) (h : VD T Q l kill k (ρ.sets d r) st)
    (hp : ∀ c ∈ vals ++ caps, Pl c := by (repeat' (first | exact Pl.int _ _ | exact Pl.bool _ | exact Pl.str _ | exact Pl.nilSl | exact pl_nil | refine pl_cons ?_ ?_ | refine Pl.tuple _ ?_ | refine Pl.agg _ ?_ | refine Pl.func _ _ ?_ | assumption | refine Pl.iptr _ _ ?_ | exact pll_nil | refine pll_cons ?_ ?_ | refine Pl.sl _ _ ?_)); first | done | fail) : VD T Q (⟨d, none, .call f xs⟩ :: l) kill k ρ st :=
  D_callP hf hx (viewL_pl hp) hc h
theorem V_fA {pf : PF} {Q : PV → Prop} {x : EX} {r : PV} (ha : adv 200 k x = ([], .ret)) (hr : resG ρ st.get pf.results = some r) (hq : Q r)
    (hp : Pl r := by (repeat' (first | exact Pl.int _ _ | exact Pl.bool _ | exact Pl.str _ | exact Pl.nilSl | exact pl_nil | refine pl_cons ?_ ?_ | refine Pl.tuple _ ?_ | refine Pl.agg _ ?_ | refine Pl.func _ _ ?_ | assumption | refine Pl.iptr _ _ ?_ | exact pll_nil | refine pll_cons ?_ ?_ | refine Pl.sl _ _ ?_)); first | done | fail) : V T (Ends pf Q) k x ρ st := V_fin ha hr hp.view hq
theorem V_fAN {pf : PF} {Q : PV → Prop} {x : EX} {r : PV} (ha : adv 200 k x = ([], .normal)) (hr : resG ρ st.get pf.results = some r) (hq : Q r)
    (hp : Pl r := by (repeat' (first | exact Pl.int _ _ | exact Pl.bool _ | exact Pl.str _ | exact Pl.nilSl | exact pl_nil | refine pl_cons ?_ ?_ | refine Pl.tuple _ ?_ | refine Pl.agg _ ?_ | refine Pl.func _ _ ?_ | assumption | refine Pl.iptr _ _ ?_ | exact pll_nil | refine pll_cons ?_ ?_ | refine Pl.sl _ _ ?_)); first | done | fail) : V T (Ends pf Q) k x ρ st := V_finN ha hr hp.view hq
end
end Go.AM
set_option linter.unusedVariables false
set_option linter.unusedSimpArgs false
namespace Go.AM
open Go.RowKit
def Got (e : EC) : List (Nat × PV) → Prop
  | [] => True
  | (t, p) :: l => e.get t = some p ∧ Got e l
theorem Got.get {e : EC} : ∀ {l : List (Nat × PV)}, Got e l → ∀ t p, (ecOf l).get t = some p → e.get t = some p
  | [], h, t, p, hp => by cases hp
  | (u, q) :: l, ⟨h1, h2⟩, t, p, hp => less_put h1 (fun t p h => Got.get h2 t p h) t p hp
section
variable {T : Tb} {Q : Post} {k : List Fr} {ρ : EC} {st : St} {P : EX → EC → St → Prop}
theorem V_to {x : EX} (l : List (Nat × PV)) (h : Got ρ l) (hv : V T Q k x (ecOf l) st) : V T Q k x ρ st := V_less (ecOf l) h.get hv
theorem V_re {x x' : EX} {k' : List Fr} {l : List (Nat × PV)} (ha : adv 200 k x = (k', x')) (hv : V T Q k' x' (ecOf l) st) (h : Got ρ l) : V T Q k x ρ st := V_adv ha (V_to l h hv)
theorem V_out {x x' : EX} (l : List (Nat × PV)) (ha : adv 200 k x = ([], x')) (h : Got ρ l) (hp : P x' (ecOf l) st) : V T (PE P) k x ρ st := V_to l h (V_endP ha hp)
theorem V_cutTo {c : PC} {x : EX} {k' : List Fr} {l : List (Nat × PV)} (ha : adv 200 k' x = (.code c :: k, .normal)) (h : V T (PE P) [.code c] .normal (ecOf l) st) (hl : Got ρ l) (hk : ∀ x e st', P x e st' → V T Q k x e st') : V T Q k' x ρ st := V_adv ha (V_to l hl (V_cutP h hk))
end
section
variable {T : Tb} {Q : Post} {k : List Fr} {ρ : EC} {st : St} {l : List POp} {kill : List Nat}
theorem O_cat {d : Option Nat} {x y : Opd} {a b : List UInt8} (hl : a.length + b.length ≤ 9223372036854775807) (hx : x.get ρ = some (.str a)) (hy : y.get ρ = some (.str b)) (h : VO T Q l kill k (ρ.sets d (.str (a ++ b))) st) : VO T Q (⟨d, none, .bin .add x y⟩ :: l) kill k ρ st :=
  O_step (by
    simp only [stepQ, get2, hx, hy, binOp?, binStr]
    rw [if_neg (by omega)]) h
end
theorem some_int {k : IntKind} {a b : Int} (h : a = b) : some (PV.int k a) = some (PV.int k b) := by rw [h]
end Go.AM
set_option linter.unusedVariables false
set_option linter.unusedSimpArgs false
namespace Go.AM
open Go.RowKit
def XIdxS (g f : Nat) (args : List PV) (r : PV) : Prop := f = g ∧ ∃ (a : List UInt8) (c : Int), args = [.str a, .int .u8 c] ∧ r = .int .i64 (Lib.indexByte a c.toNat.toUInt8)
def XCntS (g f : Nat) (args : List PV) (r : PV) : Prop := f = g ∧ ∃ (a : List UInt8) (c : Int), args = [.str a, .int .u8 c] ∧ r = .int .i64 (a.count c.toNat.toUInt8 : Nat)
section
variable [Gl]
variable {P : Program} {g : Nat} {fn : Func} (hf : P.funcs[g]? = some fn) (hname : (fn.name == "runtime.NumGoroutine") = false) (hb : fn.body.isNone = true) (hn : Extern.findNext fn = none)
include hf hname hb hn
theorem XIdxS.sem (he : Extern.find fn = some Extern.BytealgIndexByte.indexByte) {f : Nat} {args : List PV} {r : PV} (h : XIdxS g f args r) : SemExt P f args r := by
  obtain ⟨rfl, a, c, rfl, rfl⟩ := h
  intro F w vals hs hr
  have e := arr2 (by simpa using hs)
  have h0 := rep_str (hr 0 _ rfl)
  have h1 := rep_int (hr 1 _ rfl)
  refine ⟨_, w, ?_, .refl _ _, .int _ _⟩
  rw [run_callFunc_extern hf hname hb hn he, e, h0, h1, Lib.run_indexByteString (P := P) ⟨a.toArray⟩ c w]
  rfl
theorem XCntS.sem (he : Extern.find fn = some Extern.BytealgCount.count) {f : Nat} {args : List PV} {r : PV} (h : XCntS g f args r) : SemExt P f args r := by
  obtain ⟨rfl, a, c, rfl, rfl⟩ := h
  intro F w vals hs hr
  have e := arr2 (by simpa using hs)
  have h0 := rep_str (hr 0 _ rfl)
  have h1 := rep_int (hr 1 _ rfl)
  refine ⟨_, w, ?_, .refl _ _, .int _ _⟩
  rw [run_callFunc_extern hf hname hb hn he, e, h0, h1, Lib.run_countString (P := P) ⟨a.toArray⟩ c w]
  rfl
end
theorem V_st {T : Tb} {Q : Post} {k : List Fr} {x : EX} {e : EC} {st st' : St} (h : st = st') (hv : V T Q k x e st') : V T Q k x e st := h ▸ hv
end Go.AM
set_option linter.unusedVariables false
set_option linter.unusedSimpArgs false
namespace Go.AM
open Go.RowKit
theorem putA_putA {α : Type} {t : Nat} {x y : α} : ∀ l : List (Nat × α), putA t x (putA t y l) = putA t x l
  | [] => by simp [putA]
  | (k, v) :: r => by
    by_cases h : k = t
    · simp [putA, h]
    · simp [putA, h, putA_putA r]
theorem St.put_put {st : St} {t : Nat} {x y : Tok} : (st.put t y).put t x = st.put t x := by simp [St.put, putA_putA]
def St.two (A : St) (t : Nat) (cs : List PV) (o1 : Nat) (x1 : PV) (o2 : Nat) (x2 : PV) : Bool → Bool → St
  | false, false => A
  | true, false => A.put t (.var (cs.set o1 x1))
  | false, true => A.put t (.var (cs.set o2 x2))
  | true, true => A.put t (.var ((cs.set o1 x1).set o2 x2))
def VMI (T : Tb) (Q : Post) (m1 m2 : Nat) (S : Bool → Bool → St) (j : Nat) (l : List POp) (kill : List Nat) (fr : List Fr) (e : EC) (b c : Bool) : Prop :=
  ∀ ρ, Sub e ρ → ∃ ρ1 b1 c1, T.R (.dli m1 m2 S j l ρ b c ρ1 b1 c1) ∧ W T Q fr .normal (dropA kill ρ1) (S b1 c1)
theorem splice_set {cs : List PV} {o : Nat} {q : PV} (h : o < cs.length) : splice cs o [q] = cs.set o q := by
  unfold splice
  rw [List.set_eq_take_append_cons_drop, if_pos h]
  simp
theorem loud_store {A : St} {t o : Nat} {cs : List PV} {q : PV} {ρ : EC} {r0 : Env} {a x : Opd} (hr : Sub ρ r0) (ha : a.get ρ = some (.ptr t o)) (hx : x.get ρ = some q) (h1 : q.cells = [q]) (h2 : PV.one q = true) (hg : A.get t = some (.var cs)) (ho : o < cs.length) :
    loud A (Opd.ev r0) (.store 1 a x) = some (.tuple [], A.put t (.var (cs.set o q))) := by
  refine stepL_loud hr ?_
  simp only [stepL, ha, hx, h1]
  rw [if_pos ⟨by simp [h2], rfl, by omega⟩]
  simp only [storeAt, hg, h1]
  rw [if_pos (by simp only [List.length_singleton]; omega)]
  rw [splice_set ho]
  rfl
section
variable {T : Tb} {Q : Post} {m1 m2 j : Nat} {k : List Fr} {l : List POp} {kill : List Nat} {ρ : EC} {st : St}
theorem V_MI (m1 m2 : Nat) (S : Bool → Bool → St) {x : EX} {k' : List Fr} (hS : S false false = st) (ha : adv 200 k x = (.code (.drawn l kill) :: k', .normal)) (h : VMI T Q m1 m2 S 0 l kill k' ρ false false) : V T Q k x ρ st := V_adv ha fun r hr => by
  obtain ⟨ρ1, b1, c1, h1, h2⟩ := h r hr
  exact ⟨_, _, _, hS ▸ .drawnLi _ _ _ _ _ _ _ _ _ h1, h2⟩
theorem MI_nil {S : Bool → Bool → St} {b c : Bool} (h : V T Q k .normal (.drop kill ρ) (S b c)) : VMI T Q m1 m2 S j [] kill k ρ b c := fun r hr => ⟨_, _, _, .dliNil _ _ _ _ _ _ _, h _ (hr.drop kill)⟩
theorem MI_step {S : Bool → Bool → St} {b c : Bool} {d : Option Nat} {op : PI} {p : PV} (hk1 : Nat.beq j m1 = false) (hk2 : Nat.beq j m2 = false) (hq : stepQ (S false false).get ρ op = some p) (hq1 : stepQ (S true false).get ρ op = some p) (hq2 : stepQ (S false true).get ρ op = some p) (hq3 : stepQ (S true true).get ρ op = some p) (h : VMI T Q m1 m2 S (j + 1) l kill k (ρ.sets d p) b c) : VMI T Q m1 m2 S j (⟨d, none, op⟩ :: l) kill k ρ b c := fun r hr => by
  obtain ⟨ρ1, b1, c1, h1, h2⟩ := h _ (hr.sets d p)
  exact ⟨_, _, _, .dliQuiet _ _ _ _ _ _ _ _ _ p _ _ _ (Nat.ne_of_beq_eq_false hk1) (Nat.ne_of_beq_eq_false hk2) rfl (fun x y => by cases x <;> cases y; exact stepQ_quiet hr hq; exact stepQ_quiet hr hq2; exact stepQ_quiet hr hq1; exact stepQ_quiet hr hq3) h1, h2⟩
variable {A : St} {t o1 o2 : Nat} {cs : List PV} {x1 x2 : PV}
theorem MI_st1 {a x : Opd} {c : Bool} (hg : A.get t = some (.var cs)) (hk : Nat.beq j m1 = true) (ha : a.get ρ = some (.ptr t o1)) (hx : x.get ρ = some x1) (h1 : x1.cells = [x1]) (h2 : PV.one x1 = true) (hl : Nat.blt o1 cs.length = true) (hne : Nat.beq o1 o2 = false) (h : VMI T Q m1 m2 (A.two t cs o1 x1 o2 x2) (j + 1) l kill k (ρ.sets none (.tuple [])) true c) : VMI T Q m1 m2 (A.two t cs o1 x1 o2 x2) j (⟨none, none, .store 1 a x⟩ :: l) kill k ρ false c := fun r hr => by
  have := Nat.eq_of_beq_eq_true hk
  subst this
  have hl' : o1 < cs.length := by simpa using hl
  have hne' := Nat.ne_of_beq_eq_false hne
  obtain ⟨ρ1, b1, c1, k1, k2⟩ := h _ (hr.sets none (.tuple []))
  refine ⟨_, _, _, .dliLoud1 _ _ _ _ _ _ _ (.tuple []) _ _ _ rfl (fun y => ?_) k1, k2⟩
  cases y
  · exact loud_store hr ha hx h1 h2 hg hl'
  · have := loud_store (A := A.put t (.var (cs.set o2 x2))) (cs := cs.set o2 x2) hr ha hx h1 h2 (by simp [St.get, St.put, getA_putA]) (by simpa using hl')
    rw [St.put_put, List.set_comm _ _ (Ne.symm hne')] at this
    exact this
theorem MI_st2 {a x : Opd} {b : Bool} (hg : A.get t = some (.var cs)) (hk : Nat.beq j m2 = true) (ha : a.get ρ = some (.ptr t o2)) (hx : x.get ρ = some x2) (h1 : x2.cells = [x2]) (h2 : PV.one x2 = true) (hl : Nat.blt o2 cs.length = true) (h : VMI T Q m1 m2 (A.two t cs o1 x1 o2 x2) (j + 1) l kill k (ρ.sets none (.tuple [])) b true) : VMI T Q m1 m2 (A.two t cs o1 x1 o2 x2) j (⟨none, none, .store 1 a x⟩ :: l) kill k ρ b false := fun r hr => by
  have := Nat.eq_of_beq_eq_true hk
  subst this
  have hl' : o2 < cs.length := by simpa using hl
  obtain ⟨ρ1, b1, c1, k1, k2⟩ := h _ (hr.sets none (.tuple []))
  refine ⟨_, _, _, .dliLoud2 _ _ _ _ _ _ _ (.tuple []) _ _ _ rfl (fun y => ?_) k1, k2⟩
  cases y
  · exact loud_store hr ha hx h1 h2 hg hl'
  · have := loud_store (A := A.put t (.var (cs.set o1 x1))) (cs := cs.set o1 x1) hr ha hx h1 h2 (by simp [St.get, St.put, getA_putA]) (by simpa using hl')
    rw [St.put_put] at this
    exact this
end
end Go.AM

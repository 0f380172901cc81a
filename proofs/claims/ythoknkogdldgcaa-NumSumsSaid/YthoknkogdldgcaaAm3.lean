/- AM3: instructions made out of the machine's operations; operations that change nothing. -/
import Derived.Test.YthoknkogdldgcaaAm2
import Derived.WalkKit
set_option linter.unusedVariables false
set_option linter.unusedSimpArgs false
namespace Go.AM
open Go.RowKit

def cVal1 : Value → Option PV
  | .bool b => some (.bool b)
  | .int k n => some (.int k n)
  | .string s => some (.str s.data.toList)
  | .pointer none => some .nilPtr
  | .slice none 0 0 => some .nilSl
  | .nilFunc => some .nilFunc
  | .nilIface => some .nilIface
  | _ => none
def cVals : List Value → Option (List PV)
  | [] => some []
  | v :: r => match cVal1 v, cVals r with
    | some p, some ps => some (p :: ps)
    | _, _ => none
def cVal : Value → Option PV
  | .agg cs => (cVals cs.toList).map .agg
  | .tuple cs => (cVals cs.toList).map .tuple
  | v => cVal1 v
def cOpd : Operand → Option Opd
  | .tmp t => some (.t t)
  | .const v => (cVal v).map .c
  | .func f => some (.c (.func f []))
  | .global _ => none
def cOpds : List Operand → Option (List Opd)
  | [] => some []
  | v :: r => match cOpd v, cOpds r with
    | some p, some ps => some (p :: ps)
    | _, _ => none

theorem cVal1_rep {G : Gh} {own : Nat → Prop} {w : World} {v : Value} {p : PV} (h : cVal1 v = some p) : Rep G own w v p := by
  unfold cVal1 at h
  split at h <;> first
    | (injection h with h; subst h; first | exact .bool _ | exact .int _ _ | exact .nilPtr | exact .nilSl | exact .nilFunc | exact .nilIface)
    | (injection h with h; subst h; rename_i s; have := Rep.str (G := G) (own := own) (w := w) s.data.toList; simpa using this)
    | cases h
theorem cVals_rep {G : Gh} {own : Nat → Prop} {w : World} : ∀ {vs : List Value} {ps : List PV}, cVals vs = some ps → vs.length = ps.length ∧ ∀ (i : Nat) (c : PV), ps[i]? = some c → Rep G own w (vs.getD i undef) c
  | [], ps, h => by
    injection h with h
    subst h
    exact ⟨rfl, fun i c hc => by simp at hc⟩
  | v :: r, ps, h => by
    simp only [cVals] at h
    split at h
    · rename_i p qs hp hq
      injection h with h
      subst h
      obtain ⟨h1, h2⟩ := cVals_rep hq
      refine ⟨by simp [h1], fun i c hc => ?_⟩
      cases i with
      | zero =>
        simp at hc
        subst hc
        simpa using cVal1_rep hp
      | succ i => simpa using h2 i c (by simpa using hc)
    · cases h
theorem cVal_rep {G : Gh} {own : Nat → Prop} {w : World} {v : Value} {p : PV} (h : cVal v = some p) : Rep G own w v p := by
  unfold cVal at h
  split at h
  · rename_i cs
    obtain ⟨ps, hp, rfl⟩ := Option.map_eq_some_iff.1 h
    obtain ⟨h1, h2⟩ := cVals_rep (G := G) (own := own) (w := w) hp
    exact .agg _ _ (by simpa using h1) (fun i c hc => by have := h2 i c hc; simpa [Array.getD_eq_getD_getElem?, List.getD_eq_getElem?_getD] using this)
  · rename_i cs
    obtain ⟨ps, hp, rfl⟩ := Option.map_eq_some_iff.1 h
    obtain ⟨h1, h2⟩ := cVals_rep (G := G) (own := own) (w := w) hp
    exact .tuple _ _ (by simpa using h1) (fun i c hc => by have := h2 i c hc; simpa [Array.getD_eq_getD_getElem?, List.getD_eq_getElem?_getD] using this)
  · exact cVal1_rep h

section
variable {G : Gh} {own : Nat → Prop} {w : World} {n : Nat} {ρ : Env} {a : Act}
theorem opd_rep (he : EnvRep G own w n ρ a) {x : Operand} {y : Opd} (h : cOpd x = some y) : Rep G own w (a.eval x) (y.ev ρ) := by
  cases x with
  | tmp t => injection h with h; subst h; exact he.at t
  | const v =>
    obtain ⟨p, hp, rfl⟩ := Option.map_eq_some_iff.1 h
    exact cVal_rep hp
  | global g => cases h
  | func f => injection h with h; subst h; exact .func f [] #[] rfl (fun i c hc => by simp at hc)
theorem opds_rep (he : EnvRep G own w n ρ a) : ∀ {xs : List Operand} {ys : List Opd}, cOpds xs = some ys → xs.length = ys.length ∧ ∀ (i : Nat) (c : PV), (ys.map (Opd.ev ρ))[i]? = some c → Rep G own w ((xs.map a.eval).getD i undef) c
  | [], ys, h => by
    injection h with h
    subst h
    exact ⟨rfl, fun i c hc => by simp at hc⟩
  | v :: r, ys, h => by
    simp only [cOpds] at h
    split at h
    · rename_i p qs hp hq
      injection h with h
      subst h
      obtain ⟨h1, h2⟩ := opds_rep he hq
      refine ⟨by simp [h1], fun i c hc => ?_⟩
      cases i with
      | zero =>
        simp at hc
        subst hc
        simpa using opd_rep he hp
      | succ i => simpa using h2 i c (by simpa using hc)
    · cases h

theorem rep_int {v : Value} {k : IntKind} {i : Int} (h : Rep G own w v (.int k i)) : v = .int k i := by cases h; rfl
theorem rep_bool {v : Value} {b : Bool} (h : Rep G own w v (.bool b)) : v = .bool b := by cases h; rfl
theorem rep_str {v : Value} {s : List UInt8} (h : Rep G own w v (.str s)) : v = .string ⟨s.toArray⟩ := by cases h; rfl
theorem rep_agg {v : Value} {cs : List PV} (h : Rep G own w v (.agg cs)) : ∃ vs : Array Value, v = .agg vs ∧ vs.size = cs.length ∧ ∀ (i : Nat) (c : PV), cs[i]? = some c → Rep G own w (vs.getD i undef) c := by
  cases h with
  | agg _ vs hs h => exact ⟨vs, rfl, hs, h⟩
theorem rep_tuple {v : Value} {cs : List PV} (h : Rep G own w v (.tuple cs)) : ∃ vs : Array Value, v = .tuple vs ∧ vs.size = cs.length ∧ ∀ (i : Nat) (c : PV), cs[i]? = some c → Rep G own w (vs.getD i undef) c := by
  cases h with
  | tuple _ vs hs h => exact ⟨vs, rfl, hs, h⟩

/-- The cells of a value. -/
theorem rep_cells {v : Value} {p : PV} (h : Rep G own w v p) (hp : p ≠ .junk) : v.cells.size = p.cells.length ∧ ∀ (i : Nat) (c : PV), p.cells[i]? = some c → Rep G own w (v.cells.getD i undef) c := by
  have one : ∀ {u : Value} {q : PV}, Rep G own w u q → ((#[u] : Array Value).size = [q].length ∧ ∀ (i : Nat) (c : PV), [q][i]? = some c → Rep G own w ((#[u] : Array Value).getD i undef) c) := by
    intro u q hq
    refine ⟨rfl, fun i c hc => ?_⟩
    cases i with
    | zero => simp at hc; subst hc; simpa using hq
    | succ i => simp at hc
  cases h with
  | junk => exact absurd rfl hp
  | agg cs vs hs h => exact ⟨hs, h⟩
  | bool b => exact one (.bool b)
  | int k n => exact one (.int k n)
  | str s => exact one (.str s)
  | nilPtr => exact one .nilPtr
  | ptr t off L h => exact one (.ptr t off L h)
  | rptr t g i off L h => exact one (.rptr t g i off L h)
  | iptr cells off b o u hc hr => exact one (.iptr cells off b o u hc hr)
  | nilSl => exact one .nilSl
  | sl xs full b o cap sz adr u hcap hfull hadr hsz hc hr => exact one (.sl xs full b o cap sz adr u hcap hfull hadr hsz hc hr)
  | osl t g off len full L cap a h hcap hL hfull ha hs => exact one (.osl t g off len full L cap a h hcap hL hfull ha hs)
  | vsl t off sz len L cap a h hcap ha hs => exact one (.vsl t off sz len L cap a h hcap ha hs)
  | func f caps vs hs h => exact one (.func f caps vs hs h)
  | nilFunc => exact one .nilFunc
  | iface ty v p h => exact one (.iface ty v p h)
  | nilIface => exact one .nilIface
  | tuple cs vs hs h => exact one (.tuple cs vs hs h)
end

/-! ### Types -/
def aggD : TypeDesc → Bool
  | .struct _ | .array _ _ => true
  | _ => false
def tyOf (P : Program) (t : TypeId) : Option (TypeDesc × TypeInfo) :=
  match P.underlying t, P.info? t with
  | some d, some i => some (d, i)
  | _, _ => none
theorem tyOf_spec {P : Program} {t : TypeId} {d : TypeDesc} {i : TypeInfo} (h : tyOf P t = some (d, i)) : P.underlying t = some d ∧ P.info? t = some i := by
  unfold tyOf at h
  split at h
  · rename_i d' i' h1 h2
    simp only [Option.some.injEq, Prod.mk.injEq] at h
    obtain ⟨rfl, rfl⟩ := h
    exact ⟨h1, h2⟩
  · cases h
section
variable {P : Program} {w : World} {t : TypeId} {d : TypeDesc} {i : TypeInfo}
theorem run_isAgg (h : tyOf P t = some (d, i)) : (isAgg t).run P w = .ok (aggD d) w := by
  unfold isAgg
  rw [Sem.run_bind, run_underlying (tyOf_spec h).1]
  cases d <;> rfl
theorem run_sizeOf (h : tyOf P t = some (d, i)) : (sizeOf t).run P w = .ok i.size w := by
  simp [sizeOf, typeInfo, (tyOf_spec h).2]
theorem run_zeroValue (h : tyOf P t = some (d, i)) {z : Value} (hz : i.zero = some z) : (zeroValue t).run P w = .ok z w := by
  simp [zeroValue, typeInfo, (tyOf_spec h).2, hz]
end

theorem add_at (b o n : Nat) : (⟨b, o, none⟩ : Addr).add n = ⟨b, o + n, none⟩ := by
  unfold Addr.add
  split
  · rename_i h; subst h; rfl
  · rfl

theorem add_spot {a : Addr} (h : a.spot = none) (n : Nat) : (a.add n).spot = none := by
  unfold Addr.add
  split
  · exact h
  · rfl

theorem run_load_cell {P : Program} {w : World} {b o : Nat} {v : Value} (h : cellAt w b o = some v) : (load ⟨b, o, none⟩).run P w = .ok v w := by
  unfold cellAt at h
  rw [run_load, h]

theorem run_loadVar_cells {P : Program} {G : Gh} {own : Nat → Prop} {w : World} {t : TypeId} {d : TypeDesc} {i : TypeInfo} (ht : tyOf P t = some (d, i)) (h1 : aggD d = true ∨ i.size = 1)
    {b o off : Nat} {cs : List PV} (hc : CellsAt G own w b o cs) {q : PV} (hq : slice? cs off i.size (aggD d) = some q) :
    ∃ u, (loadVar t ⟨b, o + off, none⟩).run P w = .ok u w ∧ Rep G own w u q := by
  unfold slice? at hq
  split at hq
  · rename_i hl
    unfold loadVar
    rw [Sem.run_bind, run_isAgg ht]
    simp only [Result.andThen_ok]
    split at hq
    · rename_i hagg
      injection hq with hq
      subst hq
      rw [hagg]
      simp only [if_true]
      have hv : ∀ j, ∃ v, j < i.size → cellAt w b (o + off + j) = some v ∧ ∀ c, cs[off + j]? = some c → Rep G own w v c := by
        intro j
        by_cases hj : j < i.size
        · have : off + j < cs.length := by omega
          obtain ⟨v, h1, h2⟩ := hc (off + j) _ (List.getElem?_eq_getElem this)
          refine ⟨v, fun _ => ⟨by rw [Nat.add_assoc]; exact h1, fun c hcc => ?_⟩⟩
          rw [List.getElem?_eq_getElem this] at hcc
          injection hcc with hcc
          subst hcc
          exact h2
        · exact ⟨undef, fun h => absurd h hj⟩
      obtain ⟨f, hf⟩ := Classical.axiomOfChoice hv
      refine ⟨.agg ((List.range i.size).map f).toArray, ?_, ?_⟩
      · rw [Sem.run_bind, run_sizeOf ht, Result.andThen_ok, Sem.run_bind, run_loadCells w _ _ f (fun j hj => by rw [add_at]; exact (hf j hj).1)]
        rfl
      · refine .agg _ _ (by simp; omega) (fun j c hcj => ?_)
        rw [List.getElem?_take] at hcj
        split at hcj
        · rename_i hj
          rw [List.getElem?_drop] at hcj
          have := (hf j hj).2 c hcj
          simp [hj]
          exact this
        · cases hcj
    · rename_i hagg
      have h1' : i.size = 1 := h1.resolve_left hagg
      have hagg' : aggD d = false := by simpa using hagg
      rw [hagg']
      simp only [Bool.false_eq_true, if_false]
      obtain ⟨v, h2, h3⟩ := hc off q hq
      exact ⟨v, run_load_cell h2, h3⟩
  · cases hq
end Go.AM

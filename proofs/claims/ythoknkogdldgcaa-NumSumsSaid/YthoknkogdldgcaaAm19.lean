/- AM19: a run of plain code is a run of the machine: the parts. -/
import Derived.Test.YthoknkogdldgcaaAm18
set_option linter.unusedVariables false
set_option linter.unusedSimpArgs false
namespace Go.AM
open Go.RowKit

/-! ### Loops, one round at a time -/
def wpIn (P : Program) (c : Code) (Q : Exit → Act → World → Prop) (a : Act) (w : World) : Prop :=
  ∀ (b : Frame) (k : List Item) (cs : List Frame), ∃ e a' w', Q e a' w' ∧ Arrives P (lone (b.at a (.code c :: .inLoop c :: k)) cs w) b k cs e a' w'
theorem wp_of_wpIn {P : Program} {c : Code} {Q : Exit → Act → World → Prop} {a : Act} {w : World} (h : wpIn P c Q a w) : (Code.loop c).wp P Q a w := by
  intro b k cs
  obtain ⟨e, a', w', hq, harr⟩ := h b k cs
  exact ⟨e, a', w', hq, .of_steps (.one step_loop) harr⟩
theorem wpIn_unroll {P : Program} {c : Code} {Q : Exit → Act → World → Prop} {a : Act} {w : World} (h : c.wp P (Exit.then (wpIn P c Q) Q) a w) : wpIn P c Q a w := by
  intro b k cs
  obtain ⟨e, a₁, w₁, hq, harr⟩ := h b (.inLoop c :: k) cs
  cases e with
  | normal =>
    obtain ⟨e₂, a₂, w₂, hq₂, harr₂⟩ := hq b k cs
    exact ⟨e₂, a₂, w₂, hq₂, .of_steps (Steps.trans harr (.one step_inLoop)) harr₂⟩
  | exit id => exact ⟨_, a₁, w₁, hq, .pass (x := .inLoop c) rfl (fun _ _ => .inl (by simp)) harr⟩
  | goto l => exact ⟨_, a₁, w₁, hq, .pass (x := .inLoop c) rfl (fun _ _ => .inl (by simp)) harr⟩
  | ret => exact ⟨_, a₁, w₁, hq, .pass (x := .inLoop c) rfl (fun _ _ => .inl (by simp)) harr⟩
  | panic ch => exact ⟨_, a₁, w₁, hq, .pass (x := .inLoop c) rfl (fun _ _ => .inl (by simp)) harr⟩
  | outgrown => exact ⟨_, a₁, w₁, hq, .pass (x := .inLoop c) rfl (fun _ _ => .inl (by simp)) harr⟩

/-! ### What calls mean -/
/-- There is such a function, with a body. -/
def Enters (P : Program) (f : Nat) : Prop := ∃ fn c, P.funcs[f]? = some fn ∧ fn.body = some c ∧ (fn.name == "runtime.NumGoroutine") = false
def SemCall (P : Program) (f : Nat) (args : List PV) (r : PV) : Prop :=
  Enters P f ∧ ∀ (F : Nat → Prop) (w : World) (vals : Array Value), (∀ b, F b → b < w.heap.size) → vals.size = args.length → (∀ (i : Nat) (c : PV), args[i]? = some c → Rep noG F w (vals.getD i undef) c) →
    Calls P f vals w (fun e w' => ∃ u, e = .returned u ∧ Below w.heap.size w w' ∧ Rep noG F w' u r)
def SemRaw (P : Program) (f : Nat) (args : List PV) (st : St) (r : PV) (st' : St) : Prop :=
  Enters P f ∧ ∀ (X : Cx) (G : Gh) (w : World) (vals : Array Value), Inv X st G w → vals.size = args.length → (∀ (i : Nat) (c : PV), args[i]? = some c → Rep G (OwnF X st G) w (vals.getD i undef) c) →
    Calls P f vals w (fun e w' => ∃ u, e = .returned u ∧ ∃ G', Inv X st' G' w' ∧ Rep G' (OwnF X st' G') w' u r)
/-- A function without a Go body: the model's own entry. -/
def SemExt (P : Program) (f : Nat) (args : List PV) (r : PV) : Prop :=
  ∀ (F : Nat → Prop) (w : World) (vals : Array Value), vals.size = args.length → (∀ (i : Nat) (c : PV), args[i]? = some c → Rep noG F w (vals.getD i undef) c) →
    ∃ u w', (callFunc f vals).run P w = .ok (.value u) w' ∧ Below w.heap.size w w' ∧ Rep noG F w' u r

def exC : EX → Exit
  | .normal => .normal
  | .exit id => .exit id
  | .ret => .ret
def PostC (X : Cx) (n : Nat) (x : EX) (ρ' : Env) (st' : St) : Exit → Act → World → Prop :=
  fun e a' w' => e = exC x ∧ ∃ G', Inv X st' G' w' ∧ EnvRep G' (OwnF X st' G') w' n ρ' a'
def SemCode (P : Program) (c : PC) (ρ : Env) (st : St) (x : EX) (ρ' : Env) (st' : St) : Prop :=
  ∀ (n : Nat) (kill : Nat → List Nat) (gc : Code), cCode P n kill gc = some c → ∀ (X : Cx) (G : Gh) (w : World) (a : Act), Inv X st G w → EnvRep G (OwnF X st G) w n ρ a →
    gc.wp P (PostC X n x ρ' st') a w ∧ ∀ c0, gc = .loop c0 → wpIn P c0 (PostC X n x ρ' st') a w
def SemOps (P : Program) (l : List POp) (ρ : Env) (st : St) (ρ' : Env) (st' : St) : Prop :=
  ∀ (n : Nat) (ops : Array Oper) (lo : List Oper), cOps P ops n lo = some l → ∀ (X : Cx) (G : Gh) (w : World) (a : Act) (Q : Exit → Act → World → Prop), Inv X st G w → EnvRep G (OwnF X st G) w n ρ a →
    (∀ G' w' a', Inv X st' G' w' → EnvRep G' (OwnF X st' G') w' n ρ' a' → Q .normal a' w') → wpList P ops Q lo a w

/-! ### Guards -/
section
variable {P : Program} {X : Cx} {st : St} {G : Gh} {own : Nat → Prop} {w : World} {n : Nat} {ρ : Env} {a : Act}

theorem gd_wanted (hE : EnvRep G own w n ρ a) {ops : Array Oper} {o : Oper} {g : Option (Nat × Bool)} (hc : cGuard ops o.guard = some g) {b : Bool} (hg : gd (getA · ρ) g = some b) : Region.wanted o (yielded ops a.tmps) = b := by
  unfold Region.wanted
  cases hgu : o.guard with
  | none =>
    rw [hgu] at hc
    injection hc with hc
    subst hc
    injection hg with hg
  | some jw =>
    obtain ⟨j, want⟩ := jw
    rw [hgu] at hc
    simp only [cGuard] at hc
    split at hc
    · rename_i t ht
      injection hc with hc
      subst hc
      simp only [gd] at hg
      simp only [yielded, ht, Option.bind_some]
      split at hg
      · rename_i b' hb'
        injection hg with hg
        have hr := hE.reps t _ hb'
        have hv : a.tmps[t]? = some (.bool b') := by
          rw [Array.getD_eq_getD_getElem?] at hr
          cases ht2 : a.tmps[t]? with
          | none => rw [ht2] at hr; simp [undef] at hr; cases hr
          | some v => rw [ht2] at hr; simp at hr; rw [rep_bool hr]
        rw [hv]
        simp only
        rw [← hg]
        cases b' <;> cases want <;> rfl
      · rename_i hb'
        injection hg with hg
        have hr := hE.reps t _ hb'
        have hv : a.tmps[t]? = none ∨ a.tmps[t]? = some undef := by
          rw [Array.getD_eq_getD_getElem?] at hr
          cases ht2 : a.tmps[t]? with
          | none => exact .inl rfl
          | some v =>
            rw [ht2] at hr
            simp at hr
            obtain ⟨vs, hvs, hs, _⟩ := rep_tuple hr
            have : vs = #[] := Array.eq_empty_of_size_eq_zero (by simpa using hs)
            subst this
            exact .inr (by rw [hvs]; rfl)
        rcases hv with hv | hv
        · rw [hv]
          subst hg
          rfl
        · rw [hv]
          subst hg
          simp [undef]
      · cases hg
    · cases hc

theorem dst_lt {d : Option Nat} (h : dstOk n d = true) : ∀ t, d = some t → t < n := by
  intro t ht
  subst ht
  simpa [dstOk] using h
theorem undef_rep : Rep G own w undef (.tuple []) := .tuple [] #[] rfl (fun i c h => by simp at h)

/-! ### Calls -/
theorem run_callOp {fo : Operand} {args : Array Operand} {ts : Array TypeId} {o : Oper} (ho : o.op = .call { callee := .value fo, args := args, argTypes := ts }) {g : Nat} {vs : Array Value} (hf : a.eval fo = .func (.func g) #[] vs) :
    (execOp a.eval o).run P w = (callFunc g (args.map a.eval ++ vs)).run P w := by
  simp only [execOp, ho, resolve, hf, Deferred.ofValue]
  simp [invoke]
theorem run_enter {g : Nat} {fn : Func} {vals : Array Value} (hf : P.funcs[g]? = some fn) (hn : (fn.name == "runtime.NumGoroutine") = false) {c : Code} (hb : fn.body = some c) : (callFunc g vals).run P w = .ok (.enter g vals) w := by
  have : (fn.name = "runtime.NumGoroutine") = False := by
    apply propext
    constructor
    · intro h; rw [h] at hn; simp at hn
    · exact False.elim
  simp [callFunc, hf, this, hb]

/-- The arguments of a call, with what the function value holds. -/
theorem args_rep {hI : True} (hE : EnvRep G own w n ρ a) {args : Array Operand} {xs : List Opd} (hx : cOpds args.toList = some xs) {vs : Array Value} {caps : List PV} (hs : vs.size = caps.length) (hv : ∀ (i : Nat) (c : PV), caps[i]? = some c → Rep G own w (vs.getD i undef) c) :
    (args.map a.eval ++ vs).size = (xs.map (Opd.ev ρ) ++ caps).length ∧ ∀ (i : Nat) (c : PV), (xs.map (Opd.ev ρ) ++ caps)[i]? = some c → Rep G own w ((args.map a.eval ++ vs).getD i undef) c := by
  obtain ⟨h1, h2⟩ := opds_rep hE hx
  have hl : args.size = xs.length := by simpa using h1
  refine ⟨by simp [hl, hs], fun i c hc => ?_⟩
  rw [List.getElem?_append] at hc
  split at hc
  · rename_i hi
    have := h2 i c hc
    simp at hi
    rw [Array.getD_eq_getD_getElem?, Array.getElem?_append_left (by simpa [hl] using hi)]
    rw [List.getD_eq_getElem?_getD] at this
    simpa using this
  · rename_i hi
    simp at hi hc
    have := hv _ c hc
    rw [Array.getD_eq_getD_getElem?, Array.getElem?_append_right (by simpa [hl] using hi)]
    rw [Array.getD_eq_getD_getElem?] at this
    simpa [hl] using this

theorem scalar_rep {G' : Gh} {own' : Nat → Prop} {w' : World} {v : Value} {r : PV} (h : scalarR r = true) (hr : Rep G own w v r) : Rep G' own' w' v r := by
  have one : ∀ {v : Value} {r : PV}, scalar? r = true → Rep G own w v r → Rep G' own' w' v r := by
    intro v r h hr
    cases hr <;> first | (cases h; done) | exact .bool _ | exact .int _ _ | exact .str _
  unfold scalarR at h
  split at h
  · rename_i vs
    obtain ⟨us, rfl, hs, hrep⟩ := rep_tuple hr
    refine .tuple vs us hs fun i c hc => one ?_ (hrep i c hc)
    exact (List.all_eq_true.1 h) c (List.mem_of_getElem? hc)
  · exact one h hr
end
end Go.AM

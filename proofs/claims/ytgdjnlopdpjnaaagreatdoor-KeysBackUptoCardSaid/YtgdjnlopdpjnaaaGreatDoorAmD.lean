/- The abstract machine: AM19: a run of plain code is a run of the machine: the parts. · AM20: one operation, calls. -/
import Derived.Test.YtgdjnlopdpjnaaaGreatDoorAmC
set_option linter.unusedSectionVars false
set_option linter.unusedVariables false
set_option linter.unusedSimpArgs false
namespace Go.AM
open Go.RowKit
variable [Gl]
def wpIn (P : Program) (c : Code) (Q : Exit → Act → World → Prop) (a : Act) (w : World) : Prop :=
  ∀ (b : Frame) (k : List Item) (cs : List Frame), ∃ e a' w', Q e a' w' ∧ Arrives P (lone (b.at a (.code c :: .inLoop c :: k)) cs w) b k cs e a' w'
theorem Zk9 {P : Program} {c : Code} {Q : Exit → Act → World → Prop} {a : Act} {w : World} (h : wpIn P c Q a w) : (Code.loop c).wp P Q a w := by
  intro b k cs
  obtain ⟨e, a', w', hq, harr⟩ := h b k cs
  exact ⟨e, a', w', hq, .of_steps (.one step_loop) harr⟩
theorem Zhj {P : Program} {c : Code} {Q : Exit → Act → World → Prop} {a : Act} {w : World} (h : c.wp P (Exit.then (wpIn P c Q) Q) a w) : wpIn P c Q a w := by
  intro b k cs
  obtain ⟨e, a₁, w₁, hq, harr⟩ := h b (.inLoop c :: k) cs
  cases e with
  | normal =>
    obtain ⟨e₂, a₂, w₂, hq₂, harr₂⟩ := hq b k cs
    exact ⟨e₂, a₂, w₂, hq₂, .of_steps (Steps.trans harr (.one step_inLoop)) harr₂⟩
  | exit id => exact ⟨_, a₁, w₁, hq, .pass (x := .inLoop c) rfl (fun _ _ => .inl (by simp)) harr⟩
  | goto l => exact ⟨_, a₁, w₁, hq, .pass (x := .inLoop c) rfl (fun _ _ => .inl (by simp)) harr⟩
  | ret => exact ⟨_, a₁, w₁, hq, .pass (x := .inLoop c) rfl (fun _ _ => .inl (by simp)) harr⟩
  | panic ch => exact ⟨_, a₁, w₁, hq, .pass (x := .inLoop c) rfl (fun _ _ => .inl (by simp)) harr⟩
  | outgrown => exact ⟨_, a₁, w₁, hq, .pass (x := .inLoop c) rfl (fun _ _ => .inl (by simp)) harr⟩
def Enters (P : Program) (f : Nat) : Prop := ∃ fn c, P.funcs[f]? = some fn ∧ fn.body = some c ∧ (fn.name == "runtime.NumGoroutine") = false
def Zcx (P : Program) (f : Nat) (args : List PV) (r : PV) : Prop :=
  Enters P f ∧ ∀ (F : Nat → Prop) (w : World) (vals : Array Value), (∀ b, F b → b < w.heap.size) → Gl.ok w → vals.size = args.length → (∀ (i : Nat) (c : PV), args[i]? = some c → Rep noG F w (vals.getD i undef) c) →
    Calls P f vals w (fun e w' => ∃ u, e = .returned u ∧ Below w.heap.size w w' ∧ Rep noG F w' u r)
def SemRaw (P : Program) (f : Nat) (args : List PV) (st : St) (r : PV) (st' : St) : Prop :=
  Enters P f ∧ ∀ (X : Cx) (G : Gh) (w : World) (vals : Array Value), Inv X st G w → vals.size = args.length → (∀ (i : Nat) (c : PV), args[i]? = some c → Rep G (Z6 X st G) w (vals.getD i undef) c) →
    Calls P f vals w (fun e w' => ∃ u, e = .returned u ∧ ∃ G', Inv X st' G' w' ∧ Rep G' (Z6 X st' G') w' u r)
def Z86 (P : Program) (f : Nat) (args : List PV) (r : PV) : Prop :=
  ∀ (F : Nat → Prop) (w : World) (vals : Array Value), vals.size = args.length → (∀ (i : Nat) (c : PV), args[i]? = some c → Rep noG F w (vals.getD i undef) c) →
    ∃ u w', (callFunc f vals).run P w = .ok (.value u) w' ∧ Below w.heap.size w w' ∧ Rep noG F w' u r
def exC : EX → Exit
  | .normal => .normal
  | .exit id => .exit id
  | .ret => .ret
def PostC (X : Cx) (n : Nat) (x : EX) (ρ' : Env) (st' : St) : Exit → Act → World → Prop :=
  fun e a' w' => e = exC x ∧ ∃ G', Inv X st' G' w' ∧ EnvRep G' (Z6 X st' G') w' n ρ' a'
def SemCode (P : Program) (c : PC) (ρ : Env) (st : St) (x : EX) (ρ' : Env) (st' : St) : Prop :=
  ∀ (n : Nat) (kill : Nat → List Nat) (gc : Code), Z8o P n kill gc = some c → ∀ (X : Cx) (G : Gh) (w : World) (a : Act), Inv X st G w → EnvRep G (Z6 X st G) w n ρ a →
    gc.wp P (PostC X n x ρ' st') a w ∧ ∀ c0, gc = .loop c0 → wpIn P c0 (PostC X n x ρ' st') a w
def SemOps (P : Program) (l : List POp) (ρ : Env) (st : St) (ρ' : Env) (st' : St) : Prop :=
  ∀ (n : Nat) (ops : Array Oper) (lo : List Oper), Zje P ops n lo = some l → ∀ (X : Cx) (G : Gh) (w : World) (a : Act) (Q : Exit → Act → World → Prop), Inv X st G w → EnvRep G (Z6 X st G) w n ρ a →
    (∀ G' w' a', Inv X st' G' w' → EnvRep G' (Z6 X st' G') w' n ρ' a' → Q .normal a' w') → wpList P ops Q lo a w
section
variable {P : Program} {X : Cx} {st : St} {G : Gh} {own : Nat → Prop} {w : World} {n : Nat} {ρ : Env} {a : Act}
theorem Z19 (hE : EnvRep G own w n ρ a) {ops : Array Oper} {o : Oper} {g : Option (Nat × Bool)} (hc : cGuard ops o.guard = some g) {b : Bool} (hg : gd (Z9 · ρ) g = some b) : Region.wanted o (yielded ops a.tmps) = b := by
  unfold Region.wanted
  cases hgu : o.guard with
  | none =>
    rw [hgu] at hc
    injection hc with hc
    subst hc
    injection hg with hg
  | some jw =>
    obtain ⟨j, want⟩ := jw
    rw [hgu] at hc
    simp only [cGuard] at hc
    split at hc
    · rename_i t ht
      injection hc with hc
      subst hc
      simp only [gd] at hg
      simp only [yielded, ht, Option.bind_some]
      split at hg
      · rename_i b' hb'
        injection hg with hg
        have hr := hE.reps t _ hb'
        have hv : a.tmps[t]? = some (.bool b') := by
          rw [Array.getD_eq_getD_getElem?] at hr
          cases ht2 : a.tmps[t]? with
          | none => rw [ht2] at hr; simp [undef] at hr; cases hr
          | some v => rw [ht2] at hr; simp at hr; rw [Z5h hr]
        rw [hv]
        simp only
        rw [← hg]
        cases b' <;> cases want <;> rfl
      · rename_i hb'
        injection hg with hg
        have hr := hE.reps t _ hb'
        have hv : a.tmps[t]? = none ∨ a.tmps[t]? = some undef := by
          rw [Array.getD_eq_getD_getElem?] at hr
          cases ht2 : a.tmps[t]? with
          | none => exact .inl rfl
          | some v =>
            rw [ht2] at hr
            simp at hr
            obtain ⟨vs, hvs, hs, _⟩ := Zhr hr
            have : vs = #[] := Array.eq_empty_of_size_eq_zero (by simpa using hs)
            subst this
            exact .inr (by rw [hvs]; rfl)
        rcases hv with hv | hv
        · rw [hv]
          subst hg
          rfl
        · rw [hv]
          subst hg
          simp [undef]
      · cases hg
    · cases hc
theorem Zbw {d : Option Nat} (h : dstOk n d = true) : ∀ t, d = some t → t < n := by
  intro t ht
  subst ht
  simpa [dstOk] using h
theorem undef_rep : Rep G own w undef (.tuple []) := .tuple [] #[] rfl (fun i c h => by simp at h)
theorem run_callOp {fo : Operand} {args : Array Operand} {ts : Array TypeId} {o : Oper} (ho : o.op = .call { callee := .value fo, args := args, argTypes := ts }) {g : Nat} {vs : Array Value} (hf : a.eval fo = .func (.func g) #[] vs) :
    (execOp a.eval o).run P w = (callFunc g (args.map a.eval ++ vs)).run P w := by
  simp only [execOp, ho, resolve, hf, Deferred.ofValue]
  simp [invoke]
theorem run_enter {g : Nat} {fn : Func} {vals : Array Value} (hf : P.funcs[g]? = some fn) (hn : (fn.name == "runtime.NumGoroutine") = false) {c : Code} (hb : fn.body = some c) : (callFunc g vals).run P w = .ok (.enter g vals) w := by
  have : (fn.name = "runtime.NumGoroutine") = False := by
    apply propext
    constructor
    · intro h; rw [h] at hn; simp at hn
    · exact False.elim
  simp [callFunc, hf, this, hb]
theorem args_rep {hI : True} (hE : EnvRep G own w n ρ a) {args : Array Operand} {xs : List Opd} (hx : Zj7 args.toList = some xs) {vs : Array Value} {caps : List PV} (hs : vs.size = caps.length) (hv : ∀ (i : Nat) (c : PV), caps[i]? = some c → Rep G own w (vs.getD i undef) c) :
    (args.map a.eval ++ vs).size = (xs.map (Opd.ev ρ) ++ caps).length ∧ ∀ (i : Nat) (c : PV), (xs.map (Opd.ev ρ) ++ caps)[i]? = some c → Rep G own w ((args.map a.eval ++ vs).getD i undef) c := by
  obtain ⟨h1, h2⟩ := Zh9 hE hx
  have hl : args.size = xs.length := by simpa using h1
  refine ⟨by simp [hl, hs], fun i c hc => ?_⟩
  rw [List.getElem?_append] at hc
  split at hc
  · rename_i hi
    have := h2 i c hc
    simp at hi
    rw [Array.getD_eq_getD_getElem?, Array.getElem?_append_left (by simpa [hl] using hi)]
    rw [List.getD_eq_getElem?_getD] at this
    simpa using this
  · rename_i hi
    simp at hi hc
    have := hv _ c hc
    rw [Array.getD_eq_getD_getElem?, Array.getElem?_append_right (by simpa [hl] using hi)]
    rw [Array.getD_eq_getD_getElem?] at this
    simpa [hl] using this
theorem Zke {G' : Gh} {own' : Nat → Prop} {w' : World} {v : Value} {r : PV} (h : Z4v r = true) (hr : Rep G own w v r) : Rep G' own' w' v r := by
  have one : ∀ {v : Value} {r : PV}, scalar? r = true → Rep G own w v r → Rep G' own' w' v r := by
    intro v r h hr
    cases hr <;> first | (cases h; done) | exact .bool _ | exact .int _ _ | exact .str _
  unfold Z4v at h
  split at h
  · rename_i vs
    obtain ⟨us, rfl, hs, hrep⟩ := Zhr hr
    refine .tuple vs us hs fun i c hc => one ?_ (hrep i c hc)
    exact (List.all_eq_true.1 h) c (List.mem_of_getElem? hc)
  · exact one h hr
end
end Go.AM
namespace Go.AM
open Go.RowKit
variable [Gl]
section
variable {P : Program} {X : Cx} {st : St} {G : Gh} {w : World} {n : Nat} {ρ : Env} {a : Act}
def After (X : Cx) (n : Nat) (st' : St) (ρ' : Env) (K : Act → World → Prop) : Prop := ∀ G' w' a', Inv X st' G' w' → EnvRep G' (Z6 X st' G') w' n ρ' a' → K a' w'
theorem wp_lok (hE : EnvRep G (Z6 X st G) w n ρ a) {o : Oper} {d : Option Nat} (hd : o.dst = d) (hn : dstOk n d = true) {p : PV} {st' : St} (h : LOk P X st G w o a p st') {K : Act → World → Prop} {Q : Exit → Act → World → Prop} (hK : After X n st' (Env.put ρ d p) K) : o.wp P a w K Q := by
  obtain ⟨nx, u, w', G', hrun, hans, hI', hla, hr⟩ := h
  subst hd
  have := hK G' w' (a.put o.dst u) hI' ((hla.env hE).put (Zbw hn) hr)
  unfold Oper.wp
  rw [hrun]
  cases nx <;> simp [ansOf] at hans
  · subst hans; exact this
  · subst hans; exact this
theorem func_rep {own : Nat → Prop} {v : Value} {g : Nat} {caps : List PV} (h : Rep G own w v (.func g caps)) : ∃ vs : Array Value, v = .func (.func g) #[] vs ∧ vs.size = caps.length ∧ ∀ (i : Nat) (c : PV), caps[i]? = some c → Rep G own w (vs.getD i undef) c := by
  cases h with
  | func _ _ vs hs h => exact ⟨vs, rfl, hs, h⟩
theorem cOp_call {o : Oper} {f : Opd} {xs : List Opd} (h : Zl P o.op = some (.call f xs)) : ∃ fo args ts, o.op = .call { callee := .value fo, args := args, argTypes := ts } ∧ Z2r fo = some f ∧ Zj7 args.toList = some xs := by
  have noBin : ∀ {b ts ys}, Z3q P b ts ys ≠ some (.call f xs) := by
    intro b ts ys hc
    unfold Z3q at hc
    split at hc
    · (repeat' split at hc) <;> first | (cases hc; done) | (obtain ⟨_, _, h⟩ := Option.map_eq_some_iff.1 hc; cases h)
    · (repeat' split at hc) <;> first | (cases hc; done) | (injection hc with hc; cases hc)
    · unfold Zah at hc
      (repeat' split at hc) <;> first | (cases hc; done) | (injection hc with hc; cases hc)
    · unfold cCopy at hc
      (repeat' split at hc) <;> first | (cases hc; done) | (injection hc with hc; cases hc)
    · obtain ⟨_, _, h⟩ := Option.map_eq_some_iff.1 hc; cases h
    · obtain ⟨_, _, h⟩ := Option.map_eq_some_iff.1 hc; cases h
    · cases hc
  cases ho : o.op with
  | call c =>
    rw [ho] at h
    obtain ⟨callee, args, ts⟩ := c
    simp only [Zl] at h
    split at h
    · rename_i b hb
      exact absurd h noBin
    · rename_i fo
      split at h
      · rename_i f' xs' h1 h2
        injection h with h
        injection h with h3 h4
        subst h3 h4
        exact ⟨fo, args, ts, rfl, h1, h2⟩
      · cases h
    · cases h
  | move x => rw [ho] at h; obtain ⟨_, _, h⟩ := Option.map_eq_some_iff.1 h; cases h
  | assign x => rw [ho] at h; obtain ⟨_, _, h⟩ := Option.map_eq_some_iff.1 h; cases h
  | pick c x y => rw [ho] at h; simp only [Zl] at h; (repeat' split at h) <;> first | (cases h; done) | (injection h with h; cases h)
  | load t x => rw [ho] at h; simp only [Zl] at h; unfold cLoad at h; (repeat' split at h) <;> first | (cases h; done) | (injection h with h; cases h)
  | store t x y => rw [ho] at h; simp only [Zl] at h; unfold Zg7 at h; (repeat' split at h) <;> first | (cases h; done) | (injection h with h; cases h)
  | alloc t => rw [ho] at h; obtain ⟨_, _, h⟩ := Option.map_eq_some_iff.1 h; cases h
  | box t x => rw [ho] at h; obtain ⟨_, _, h⟩ := Option.map_eq_some_iff.1 h; cases h
  | build t ps => rw [ho] at h; simp only [Zl] at h; unfold Zgc at h; (repeat' split at h) <;> first | (cases h; done) | (obtain ⟨_, _, h⟩ := Option.map_eq_some_iff.1 h; cases h)
  | buildSlice t l ps => rw [ho] at h; simp only [Zl] at h; unfold Z4d at h; (repeat' split at h) <;> first | (cases h; done) | (obtain ⟨_, _, h⟩ := Option.map_eq_some_iff.1 h; cases h)
  | fieldAddr s x f => rw [ho] at h; simp only [Zl] at h; unfold Z3f at h; (repeat' split at h) <;> first | (cases h; done) | (injection h with h; cases h)
  | field s x f => rw [ho] at h; simp only [Zl] at h; unfold Zgb at h; (repeat' split at h) <;> first | (cases h; done) | (injection h with h; cases h)
  | indexAddr t x i => rw [ho] at h; simp only [Zl] at h; unfold Z3e at h; (repeat' split at h) <;> first | (cases h; done) | (injection h with h; cases h)
  | index t x i => rw [ho] at h; simp only [Zl] at h; unfold Zga at h; (repeat' split at h) <;> first | (cases h; done) | (injection h with h; cases h)
  | slice t x lo hi mx => rw [ho] at h; simp only [Zl] at h; unfold Zg8 at h; (repeat' split at h) <;> first | (cases h; done) | (injection h with h; cases h)
  | convert s t x => rw [ho] at h; simp only [Zl] at h; unfold cConv at h; (repeat' split at h) <;> first | (cases h; done) | (injection h with h; cases h)
  | unOp op t x => rw [ho] at h; simp only [Zl] at h; (repeat' split at h) <;> first | (cases h; done) | (obtain ⟨_, _, h⟩ := Option.map_eq_some_iff.1 h; cases h)
  | binOp op t x y t' => rw [ho] at h; simp only [Zl] at h; unfold cBin at h; (repeat' split at h) <;> first | (cases h; done) | (injection h with h; cases h)
  | extract x i => rw [ho] at h; obtain ⟨_, _, h⟩ := Option.map_eq_some_iff.1 h; cases h
  | makeInterface t x => rw [ho] at h; simp only [Zl] at h; (repeat' split at h) <;> first | (cases h; done) | (obtain ⟨_, _, h⟩ := Option.map_eq_some_iff.1 h; cases h)
  | makeFunc fn first caps => rw [ho] at h; simp only [Zl] at h; (repeat' split at h) <;> first | (cases h; done) | (obtain ⟨_, _, h⟩ := Option.map_eq_some_iff.1 h; cases h)
  | makeSlice t l c => rw [ho] at h; simp only [Zl] at h; unfold Zag at h; (repeat' split at h) <;> first | (cases h; done) | (injection h with h; cases h)
  | nilCheck x => rw [ho] at h; obtain ⟨_, _, h⟩ := Option.map_eq_some_iff.1 h; cases h
  | _ => rw [ho] at h; cases h
theorem Zfb (hE : EnvRep G (Z6 X st G) w n ρ a) {o : Oper} {f : Opd} {xs : List Opd} (hc : Zl P o.op = some (.call f xs)) {g : Nat} {caps : List PV} (hf : f.ev ρ = .func g caps) :
    ∃ vals : Array Value, (execOp a.eval o).run P w = (callFunc g vals).run P w ∧ vals.size = (xs.map (Opd.ev ρ) ++ caps).length ∧ ∀ (i : Nat) (c : PV), (xs.map (Opd.ev ρ) ++ caps)[i]? = some c → Rep G (Z6 X st G) w (vals.getD i undef) c := by
  obtain ⟨fo, args, ts, ho, h1, h2⟩ := cOp_call hc
  have hr := Z09 hE h1
  rw [hf] at hr
  obtain ⟨vs, hv, hs, hrep⟩ := func_rep hr
  obtain ⟨k1, k2⟩ := args_rep (hI := trivial) hE h2 hs hrep
  exact ⟨_, run_callOp ho hv, k1, k2⟩
theorem Zhk (hI : Inv X st G w) {live : Bool} {own : Nat → Prop} (ho : ∀ b, own b → Z6 X st G b) (hlv : live = true → ∀ b, own b → X.F b) {xs ys : List PV} (hv : Z2a live st.get xs ys) {vals : Array Value} (hs : vals.size = xs.length) (hr : ∀ (i : Nat) (c : PV), xs[i]? = some c → Rep G (Z6 X st G) w (vals.getD i undef) c) :
    vals.size = ys.length ∧ ∀ (i : Nat) (c : PV), ys[i]? = some c → Rep noG own w (vals.getD i undef) c := by
  refine ⟨by rw [hs, hv.1], fun i c hc => ?_⟩
  obtain ⟨x, hx⟩ := Z1d hv.1 hc
  exact view_rep hI ho hlv (hv.2 i x c hx hc) (hr i x hx)
theorem noG_rep {own own' : Nat → Prop} {v : Value} {r : PV} (h : Rep noG own w v r) (ho : ∀ b, own' b → own b) : Rep G own' w v r :=
  h.mono (fun t g L h => by cases h) (Chg.refl (fun _ => False) w) (fun b h => h.elim) (fun b h => .inl (ho b h))
theorem wp_call (hI : Inv X st G w) (hE : EnvRep G (Z6 X st G) w n ρ a) {o : Oper} {d : Option Nat} (hd : o.dst = d) (hn : dstOk n d = true) {f : Opd} {xs : List Opd} (hc : Zl P o.op = some (.call f xs)) {g : Nat} {caps : List PV} (hf : f.ev ρ = .func g caps) {args : List PV} {r : PV} (hs : Zcx P g args r)
    (hv : Z2a false st.get (xs.map (Opd.ev ρ) ++ caps) args ∨ (Z2a true st.get (xs.map (Opd.ev ρ) ++ caps) args ∧ Z4v r = true)) {K : Act → World → Prop} {Q : Exit → Act → World → Prop} (hK : ∀ w' a', Inv X st G w' → EnvRep G (Z6 X st G) w' n (Env.put ρ d r) a' → K a' w') : o.wp P a w K Q := by
  obtain ⟨vals, hrun, hsz, hrep⟩ := Zfb hE hc hf
  obtain ⟨⟨fn, c, e1, e2, e3⟩, hsem⟩ := hs
  subst hd
  have fin : ∀ (F : Nat → Prop), (∀ b, F b → b < w.heap.size) → vals.size = args.length → (∀ (i : Nat) (c : PV), args[i]? = some c → Rep noG F w (vals.getD i undef) c) → (∀ (u : Value) (w' : World), Rep noG F w' u r → Rep G (Z6 X st G) w' u r) → o.wp P a w K Q := by
    intro F hF h1 h2 h3
    unfold Oper.wp
    rw [hrun, run_enter e1 e3 e2, Oper.upon_enter]
    refine (hsem F w vals hF hI.gl h1 h2).mono fun e w' ⟨u, he, hb, hr⟩ => ?_
    subst he
    obtain ⟨k1, k2⟩ := Z2k hI hb
    exact hK w' _ k1 ((k2.env hE).put (Zbw hn) (h3 u w' hr))
  rcases hv with hv | ⟨hv, hsc⟩
  · obtain ⟨k1, k2⟩ := Zhk hI (own := Z6 X st G) (fun _ h => h) (fun h => by cases h) hv hsz hrep
    exact fin (Z6 X st G) (fun b hb => Z43 hI hb) k1 k2 (fun u w' hr => noG_rep hr (fun _ h => h))
  · obtain ⟨k1, k2⟩ := Zhk hI (own := fun _ => False) (fun _ h => h.elim) (fun _ _ h => h.elim) hv hsz hrep
    exact fin (fun _ => False) (fun b hb => hb.elim) k1 k2 (fun u w' hr => Zke hsc hr)
theorem wp_ext (hI : Inv X st G w) (hE : EnvRep G (Z6 X st G) w n ρ a) {o : Oper} {d : Option Nat} (hd : o.dst = d) (hn : dstOk n d = true) {f : Opd} {xs : List Opd} (hc : Zl P o.op = some (.call f xs)) {g : Nat} {caps : List PV} (hf : f.ev ρ = .func g caps) {args : List PV} {r : PV} (hs : Z86 P g args r)
    (hv : Z2a true st.get (xs.map (Opd.ev ρ) ++ caps) args) (hsc : Z4v r = true) {K : Act → World → Prop} {Q : Exit → Act → World → Prop} (hK : After X n st (Env.put ρ d r) K) : o.wp P a w K Q := by
  obtain ⟨vals, hrun, hsz, hrep⟩ := Zfb hE hc hf
  subst hd
  obtain ⟨k1, k2⟩ := Zhk hI (own := fun _ => False) (fun _ h => h.elim) (fun _ _ h => h.elim) hv hsz hrep
  obtain ⟨u, w', e1, e2, e3⟩ := hs (fun _ => False) w vals k1 k2
  unfold Oper.wp
  rw [hrun, e1, Oper.upon_value]
  obtain ⟨m1, m2⟩ := Z2k hI e2
  exact hK G w' _ m1 ((m2.env hE).put (Zbw hn) (Zke hsc e3))
theorem ownF_join (hI : Inv X st G w) {q τ : List (Nat × Tok)} (hp : Z87 st q τ) {st1 : St} {G1 : Gh} {w1 : World} (hI1 : Inv (Zkp X st G w q τ) st1 G1 w1) {b : Nat} (h : Z6 X (Z1g st q st1) G1 b) : Z6 (Zkp X st G w q τ) st1 G1 b := by
  rcases h with h | ⟨t, k, L, h1, h2, h3, h4⟩
  · exact .inl (.inl h)
  · unfold St.get Z1g at h1
    rw [Zcr] at h1
    split at h1
    · rename_i k' hk
      injection h1 with h1
      subst h1
      refine .inl (.inr ⟨t, k', L, hk, h2, ?_, h4⟩)
      rcases hI1.newg t _ L h3 with h5 | ⟨k2, h5⟩ | h5
      · exact h5
      · rcases (hp t).2 with h6 | h6
        · rw [hk] at h6; cases h6
        · rw [h5] at h6; cases h6
      · have hlt := get_lt hI (Z68 hp hk)
        exact absurd hlt (by
          intro hlt
          have hold := hI.toks t k' (Z68 hp hk)
          have : ∃ L0, G t k'.gen = some L0 := by
            cases k' with
            | var cs => obtain ⟨L0, e, _⟩ := hold; exact ⟨L0, e⟩
            | row g sz es lv => obtain ⟨L0, e, _⟩ := hold; exact ⟨L0, e⟩
          obtain ⟨L0, e0⟩ := this
          have := (hI1.old t k'.gen L0 e0).1
          omega)
    · exact .inr ⟨t, k, L, h1, h2, h3, h4⟩
theorem wp_raw (hI : Inv X st G w) (hE : EnvRep G (Z6 X st G) w n ρ a) {o : Oper} {d : Option Nat} (hd : o.dst = d) (hn : dstOk n d = true) {f : Opd} {xs : List Opd} (hc : Zl P o.op = some (.call f xs)) {g : Nat} {caps : List PV} (hf : f.ev ρ = .func g caps) {q τ : List (Nat × Tok)} (hp : Z87 st q τ) {r : PV} {st1 : St} (hb : st1.base = st.next)
    (hs : SemRaw P g (xs.map (Opd.ev ρ) ++ caps) (Z24 st τ) r st1) {K : Act → World → Prop} {Q : Exit → Act → World → Prop} (hK : After X n (Z1g st q st1) (Env.put ρ d r) K) : o.wp P a w K Q := by
  obtain ⟨vals, hrun, hsz, hrep⟩ := Zfb hE hc hf
  obtain ⟨⟨fn, c, e1, e2, e3⟩, hsem⟩ := hs
  subst hd
  unfold Oper.wp
  rw [hrun, run_enter e1 e3 e2, Oper.upon_enter]
  refine (hsem (Zkp X st G w q τ) G w vals (inv_part hI hp) hsz (fun i c hc => by rw [ownF_part hp]; exact hrep i c hc)).mono fun e w' ⟨u, he, G', hI1, hr⟩ => ?_
  subst he
  obtain ⟨k1, k2⟩ := inv_join hI hp hb hI1
  refine hK G' w' _ k1 ((k2.env hE).put (Zbw hn) ?_)
  exact hr.mono (fun _ _ _ h => h) (Chg.refl (fun _ => False) w') (fun b h => h.elim) (fun b h => .inl (ownF_join hI hp hI1 h))
end
end Go.AM

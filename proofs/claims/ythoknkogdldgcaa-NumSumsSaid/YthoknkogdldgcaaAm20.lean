/- AM20: one operation, calls. -/
import Derived.Test.YthoknkogdldgcaaAm19
set_option linter.unusedVariables false
set_option linter.unusedSimpArgs false
namespace Go.AM
open Go.RowKit

section
variable {P : Program} {X : Cx} {st : St} {G : Gh} {w : World} {n : Nat} {ρ : Env} {a : Act}

/-- What follows an operation. -/
def After (X : Cx) (n : Nat) (st' : St) (ρ' : Env) (K : Act → World → Prop) : Prop := ∀ G' w' a', Inv X st' G' w' → EnvRep G' (OwnF X st' G') w' n ρ' a' → K a' w'

theorem wp_lok (hE : EnvRep G (OwnF X st G) w n ρ a) {o : Oper} {d : Option Nat} (hd : o.dst = d) (hn : dstOk n d = true) {p : PV} {st' : St} (h : LOk P X st G w o a p st') {K : Act → World → Prop} {Q : Exit → Act → World → Prop} (hK : After X n st' (Env.put ρ d p) K) : o.wp P a w K Q := by
  obtain ⟨nx, u, w', G', hrun, hans, hI', hla, hr⟩ := h
  subst hd
  have := hK G' w' (a.put o.dst u) hI' ((hla.env hE).put (dst_lt hn) hr)
  unfold Oper.wp
  rw [hrun]
  cases nx <;> simp [ansOf] at hans
  · subst hans; exact this
  · subst hans; exact this

/-- The callee's value, the function value's parts. -/
theorem func_rep {own : Nat → Prop} {v : Value} {g : Nat} {caps : List PV} (h : Rep G own w v (.func g caps)) : ∃ vs : Array Value, v = .func (.func g) #[] vs ∧ vs.size = caps.length ∧ ∀ (i : Nat) (c : PV), caps[i]? = some c → Rep G own w (vs.getD i undef) c := by
  cases h with
  | func _ _ vs hs h => exact ⟨vs, rfl, hs, h⟩

theorem cOp_call {o : Oper} {f : Opd} {xs : List Opd} (h : cOp P o.op = some (.call f xs)) : ∃ fo args ts, o.op = .call { callee := .value fo, args := args, argTypes := ts } ∧ cOpd fo = some f ∧ cOpds args.toList = some xs := by
  have noBin : ∀ {b ts ys}, cBuiltin P b ts ys ≠ some (.call f xs) := by
    intro b ts ys hc
    unfold cBuiltin at hc
    split at hc
    · (repeat' split at hc) <;> first | (cases hc; done) | (obtain ⟨_, _, h⟩ := Option.map_eq_some_iff.1 hc; cases h)
    · (repeat' split at hc) <;> first | (cases hc; done) | (injection hc with hc; cases hc)
    · unfold cAppend at hc
      (repeat' split at hc) <;> first | (cases hc; done) | (injection hc with hc; cases hc)
    · unfold cCopy at hc
      (repeat' split at hc) <;> first | (cases hc; done) | (injection hc with hc; cases hc)
    · obtain ⟨_, _, h⟩ := Option.map_eq_some_iff.1 hc; cases h
    · obtain ⟨_, _, h⟩ := Option.map_eq_some_iff.1 hc; cases h
    · cases hc
  cases ho : o.op with
  | call c =>
    rw [ho] at h
    obtain ⟨callee, args, ts⟩ := c
    simp only [cOp] at h
    split at h
    · rename_i b hb
      exact absurd h noBin
    · rename_i fo
      split at h
      · rename_i f' xs' h1 h2
        injection h with h
        injection h with h3 h4
        subst h3 h4
        exact ⟨fo, args, ts, rfl, h1, h2⟩
      · cases h
    · cases h
  | move x => rw [ho] at h; obtain ⟨_, _, h⟩ := Option.map_eq_some_iff.1 h; cases h
  | assign x => rw [ho] at h; obtain ⟨_, _, h⟩ := Option.map_eq_some_iff.1 h; cases h
  | pick c x y => rw [ho] at h; simp only [cOp] at h; (repeat' split at h) <;> first | (cases h; done) | (injection h with h; cases h)
  | load t x => rw [ho] at h; simp only [cOp] at h; unfold cLoad at h; (repeat' split at h) <;> first | (cases h; done) | (injection h with h; cases h)
  | store t x y => rw [ho] at h; simp only [cOp] at h; unfold cStore at h; (repeat' split at h) <;> first | (cases h; done) | (injection h with h; cases h)
  | alloc t => rw [ho] at h; obtain ⟨_, _, h⟩ := Option.map_eq_some_iff.1 h; cases h
  | box t x => rw [ho] at h; obtain ⟨_, _, h⟩ := Option.map_eq_some_iff.1 h; cases h
  | build t ps => rw [ho] at h; simp only [cOp] at h; unfold cBuild at h; (repeat' split at h) <;> first | (cases h; done) | (obtain ⟨_, _, h⟩ := Option.map_eq_some_iff.1 h; cases h)
  | buildSlice t l ps => rw [ho] at h; simp only [cOp] at h; unfold cBuildSl at h; (repeat' split at h) <;> first | (cases h; done) | (obtain ⟨_, _, h⟩ := Option.map_eq_some_iff.1 h; cases h)
  | fieldAddr s x f => rw [ho] at h; simp only [cOp] at h; unfold cFieldAddr at h; (repeat' split at h) <;> first | (cases h; done) | (injection h with h; cases h)
  | field s x f => rw [ho] at h; simp only [cOp] at h; unfold cField at h; (repeat' split at h) <;> first | (cases h; done) | (injection h with h; cases h)
  | indexAddr t x i => rw [ho] at h; simp only [cOp] at h; unfold cIndexAddr at h; (repeat' split at h) <;> first | (cases h; done) | (injection h with h; cases h)
  | index t x i => rw [ho] at h; simp only [cOp] at h; unfold cIndex at h; (repeat' split at h) <;> first | (cases h; done) | (injection h with h; cases h)
  | slice t x lo hi mx => rw [ho] at h; simp only [cOp] at h; unfold cSlice at h; (repeat' split at h) <;> first | (cases h; done) | (injection h with h; cases h)
  | convert s t x => rw [ho] at h; simp only [cOp] at h; unfold cConv at h; (repeat' split at h) <;> first | (cases h; done) | (injection h with h; cases h)
  | unOp op t x => rw [ho] at h; simp only [cOp] at h; (repeat' split at h) <;> first | (cases h; done) | (obtain ⟨_, _, h⟩ := Option.map_eq_some_iff.1 h; cases h)
  | binOp op t x y t' => rw [ho] at h; simp only [cOp] at h; unfold cBin at h; (repeat' split at h) <;> first | (cases h; done) | (injection h with h; cases h)
  | extract x i => rw [ho] at h; obtain ⟨_, _, h⟩ := Option.map_eq_some_iff.1 h; cases h
  | makeInterface t x => rw [ho] at h; simp only [cOp] at h; (repeat' split at h) <;> first | (cases h; done) | (obtain ⟨_, _, h⟩ := Option.map_eq_some_iff.1 h; cases h)
  | makeFunc fn first caps => rw [ho] at h; simp only [cOp] at h; (repeat' split at h) <;> first | (cases h; done) | (obtain ⟨_, _, h⟩ := Option.map_eq_some_iff.1 h; cases h)
  | makeSlice t l c => rw [ho] at h; simp only [cOp] at h; unfold cMakeSl at h; (repeat' split at h) <;> first | (cases h; done) | (injection h with h; cases h)
  | nilCheck x => rw [ho] at h; obtain ⟨_, _, h⟩ := Option.map_eq_some_iff.1 h; cases h
  | _ => rw [ho] at h; cases h

/-- What stands ready for a call. -/
theorem call_ready (hE : EnvRep G (OwnF X st G) w n ρ a) {o : Oper} {f : Opd} {xs : List Opd} (hc : cOp P o.op = some (.call f xs)) {g : Nat} {caps : List PV} (hf : f.ev ρ = .func g caps) :
    ∃ vals : Array Value, (execOp a.eval o).run P w = (callFunc g vals).run P w ∧ vals.size = (xs.map (Opd.ev ρ) ++ caps).length ∧ ∀ (i : Nat) (c : PV), (xs.map (Opd.ev ρ) ++ caps)[i]? = some c → Rep G (OwnF X st G) w (vals.getD i undef) c := by
  obtain ⟨fo, args, ts, ho, h1, h2⟩ := cOp_call hc
  have hr := opd_rep hE h1
  rw [hf] at hr
  obtain ⟨vs, hv, hs, hrep⟩ := func_rep hr
  obtain ⟨k1, k2⟩ := args_rep (hI := trivial) hE h2 hs hrep
  exact ⟨_, run_callOp ho hv, k1, k2⟩

theorem view_args (hI : Inv X st G w) {live : Bool} {own : Nat → Prop} (ho : ∀ b, own b → OwnF X st G b) (hlv : live = true → ∀ b, own b → X.F b) {xs ys : List PV} (hv : ViewL live st.get xs ys) {vals : Array Value} (hs : vals.size = xs.length) (hr : ∀ (i : Nat) (c : PV), xs[i]? = some c → Rep G (OwnF X st G) w (vals.getD i undef) c) :
    vals.size = ys.length ∧ ∀ (i : Nat) (c : PV), ys[i]? = some c → Rep noG own w (vals.getD i undef) c := by
  refine ⟨by rw [hs, hv.1], fun i c hc => ?_⟩
  obtain ⟨x, hx⟩ := get_some hv.1 hc
  exact view_rep hI ho hlv (hv.2 i x c hx hc) (hr i x hx)

theorem noG_rep {own own' : Nat → Prop} {v : Value} {r : PV} (h : Rep noG own w v r) (ho : ∀ b, own' b → own b) : Rep G own' w v r :=
  h.mono (fun t g L h => by cases h) (Chg.refl (fun _ => False) w) (fun b h => h.elim) (fun b h => .inl (ho b h))

/-- A call that hands nothing of one's own in, or brings nothing but numbers and texts out. -/
theorem wp_call (hI : Inv X st G w) (hE : EnvRep G (OwnF X st G) w n ρ a) {o : Oper} {d : Option Nat} (hd : o.dst = d) (hn : dstOk n d = true) {f : Opd} {xs : List Opd} (hc : cOp P o.op = some (.call f xs)) {g : Nat} {caps : List PV} (hf : f.ev ρ = .func g caps) {args : List PV} {r : PV} (hs : SemCall P g args r)
    (hv : ViewL false st.get (xs.map (Opd.ev ρ) ++ caps) args ∨ (ViewL true st.get (xs.map (Opd.ev ρ) ++ caps) args ∧ scalarR r = true)) {K : Act → World → Prop} {Q : Exit → Act → World → Prop} (hK : ∀ w' a', Inv X st G w' → EnvRep G (OwnF X st G) w' n (Env.put ρ d r) a' → K a' w') : o.wp P a w K Q := by
  obtain ⟨vals, hrun, hsz, hrep⟩ := call_ready hE hc hf
  obtain ⟨⟨fn, c, e1, e2, e3⟩, hsem⟩ := hs
  subst hd
  have fin : ∀ (F : Nat → Prop), (∀ b, F b → b < w.heap.size) → vals.size = args.length → (∀ (i : Nat) (c : PV), args[i]? = some c → Rep noG F w (vals.getD i undef) c) → (∀ (u : Value) (w' : World), Rep noG F w' u r → Rep G (OwnF X st G) w' u r) → o.wp P a w K Q := by
    intro F hF h1 h2 h3
    unfold Oper.wp
    rw [hrun, run_enter e1 e3 e2, Oper.upon_enter]
    refine (hsem F w vals hF h1 h2).mono fun e w' ⟨u, he, hb, hr⟩ => ?_
    subst he
    obtain ⟨k1, k2⟩ := inv_below hI hb
    exact hK w' _ k1 ((k2.env hE).put (dst_lt hn) (h3 u w' hr))
  rcases hv with hv | ⟨hv, hsc⟩
  · obtain ⟨k1, k2⟩ := view_args hI (own := OwnF X st G) (fun _ h => h) (fun h => by cases h) hv hsz hrep
    exact fin (OwnF X st G) (fun b hb => own_lt_size hI hb) k1 k2 (fun u w' hr => noG_rep hr (fun _ h => h))
  · obtain ⟨k1, k2⟩ := view_args hI (own := fun _ => False) (fun _ h => h.elim) (fun _ _ h => h.elim) hv hsz hrep
    exact fin (fun _ => False) (fun b hb => hb.elim) k1 k2 (fun u w' hr => scalar_rep hsc hr)

theorem wp_ext (hI : Inv X st G w) (hE : EnvRep G (OwnF X st G) w n ρ a) {o : Oper} {d : Option Nat} (hd : o.dst = d) (hn : dstOk n d = true) {f : Opd} {xs : List Opd} (hc : cOp P o.op = some (.call f xs)) {g : Nat} {caps : List PV} (hf : f.ev ρ = .func g caps) {args : List PV} {r : PV} (hs : SemExt P g args r)
    (hv : ViewL true st.get (xs.map (Opd.ev ρ) ++ caps) args) (hsc : scalarR r = true) {K : Act → World → Prop} {Q : Exit → Act → World → Prop} (hK : After X n st (Env.put ρ d r) K) : o.wp P a w K Q := by
  obtain ⟨vals, hrun, hsz, hrep⟩ := call_ready hE hc hf
  subst hd
  obtain ⟨k1, k2⟩ := view_args hI (own := fun _ => False) (fun _ h => h.elim) (fun _ _ h => h.elim) hv hsz hrep
  obtain ⟨u, w', e1, e2, e3⟩ := hs (fun _ => False) w vals k1 k2
  unfold Oper.wp
  rw [hrun, e1, Oper.upon_value]
  obtain ⟨m1, m2⟩ := inv_below hI e2
  exact hK G w' _ m1 ((m2.env hE).put (dst_lt hn) (scalar_rep hsc e3))

theorem ownF_join (hI : Inv X st G w) {q τ : List (Nat × Tok)} (hp : Parts st q τ) {st1 : St} {G1 : Gh} {w1 : World} (hI1 : Inv (partCx X st G w q τ) st1 G1 w1) {b : Nat} (h : OwnF X (joinSt st q st1) G1 b) : OwnF (partCx X st G w q τ) st1 G1 b := by
  rcases h with h | ⟨t, k, L, h1, h2, h3, h4⟩
  · exact .inl (.inl h)
  · unfold St.get joinSt at h1
    rw [getA_append] at h1
    split at h1
    · rename_i k' hk
      injection h1 with h1
      subst h1
      refine .inl (.inr ⟨t, k', L, hk, h2, ?_, h4⟩)
      rcases hI1.newg t _ L h3 with h5 | ⟨k2, h5⟩ | h5
      · exact h5
      · rcases (hp t).2 with h6 | h6
        · rw [hk] at h6; cases h6
        · rw [h5] at h6; cases h6
      · have hlt := get_lt hI (parts_q hp hk)
        -- a token of the part that stays is older than the call
        exact absurd hlt (by
          intro hlt
          have hold := hI.toks t k' (parts_q hp hk)
          have : ∃ L0, G t k'.gen = some L0 := by
            cases k' with
            | var cs => obtain ⟨L0, e, _⟩ := hold; exact ⟨L0, e⟩
            | row g sz es lv => obtain ⟨L0, e, _⟩ := hold; exact ⟨L0, e⟩
          obtain ⟨L0, e0⟩ := this
          have := (hI1.old t k'.gen L0 e0).1
          omega)
    · exact .inr ⟨t, k, L, h1, h2, h3, h4⟩

theorem wp_raw (hI : Inv X st G w) (hE : EnvRep G (OwnF X st G) w n ρ a) {o : Oper} {d : Option Nat} (hd : o.dst = d) (hn : dstOk n d = true) {f : Opd} {xs : List Opd} (hc : cOp P o.op = some (.call f xs)) {g : Nat} {caps : List PV} (hf : f.ev ρ = .func g caps) {q τ : List (Nat × Tok)} (hp : Parts st q τ) {r : PV} {st1 : St} (hb : st1.base = st.next)
    (hs : SemRaw P g (xs.map (Opd.ev ρ) ++ caps) (partSt st τ) r st1) {K : Act → World → Prop} {Q : Exit → Act → World → Prop} (hK : After X n (joinSt st q st1) (Env.put ρ d r) K) : o.wp P a w K Q := by
  obtain ⟨vals, hrun, hsz, hrep⟩ := call_ready hE hc hf
  obtain ⟨⟨fn, c, e1, e2, e3⟩, hsem⟩ := hs
  subst hd
  unfold Oper.wp
  rw [hrun, run_enter e1 e3 e2, Oper.upon_enter]
  refine (hsem (partCx X st G w q τ) G w vals (inv_part hI hp) hsz (fun i c hc => by rw [ownF_part hp]; exact hrep i c hc)).mono fun e w' ⟨u, he, G', hI1, hr⟩ => ?_
  subst he
  obtain ⟨k1, k2⟩ := inv_join hI hp hb hI1
  refine hK G' w' _ k1 ((k2.env hE).put (dst_lt hn) ?_)
  exact hr.mono (fun _ _ _ h => h) (Chg.refl (fun _ => False) w') (fun b h => h.elim) (fun b h => .inl (ownF_join hI hp hI1 h))
end
end Go.AM

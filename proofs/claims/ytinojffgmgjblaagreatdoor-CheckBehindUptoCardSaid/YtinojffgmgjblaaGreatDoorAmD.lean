/- The abstract machine: AM20: one operation, calls. · AM21: regions whose order is drawn: one walk serves every order. · AM22: a run of plain code is a run of the machine. -/
import Derived.Test.YtinojffgmgjblaaGreatDoorAmC
set_option linter.unusedSectionVars false
set_option linter.unusedVariables false
set_option linter.unusedSimpArgs false
namespace Go.AM
open Go.RowKit
variable [Gl]
section
variable {P : Program} {X : Cx} {st : St} {G : Gh} {w : World} {n : Nat} {ρ : Env} {a : Act}
def After (X : Cx) (n : Nat) (st' : St) (ρ' : Env) (K : Act → World → Prop) : Prop := ∀ G' w' a', Inv X st' G' w' → EnvRep G' (OwnF X st' G') w' n ρ' a' → K a' w'
theorem wp_lok (hE : EnvRep G (OwnF X st G) w n ρ a) {o : Oper} {d : Option Nat} (hd : o.dst = d) (hn : dstOk n d = true) {p : PV} {st' : St} (h : LOk P X st G w o a p st') {K : Act → World → Prop} {Q : Exit → Act → World → Prop} (hK : After X n st' (Env.put ρ d p) K) : o.wp P a w K Q := by
  obtain ⟨nx, u, w', G', hrun, hans, hI', hla, hr⟩ := h
  subst hd
  have := hK G' w' (a.put o.dst u) hI' ((hla.env hE).put (dst_lt hn) hr)
  unfold Oper.wp
  rw [hrun]
  cases nx <;> simp [ansOf] at hans
  · subst hans; exact this
  · subst hans; exact this
theorem func_rep {own : Nat → Prop} {v : Value} {g : Nat} {caps : List PV} (h : Rep G own w v (.func g caps)) : ∃ vs : Array Value, v = .func (.func g) #[] vs ∧ vs.size = caps.length ∧ ∀ (i : Nat) (c : PV), caps[i]? = some c → Rep G own w (vs.getD i undef) c := by
  cases h with
  | func _ _ vs hs h => exact ⟨vs, rfl, hs, h⟩
theorem cOp_call {o : Oper} {f : Opd} {xs : List Opd} (h : cOp P o.op = some (.call f xs)) : ∃ fo args ts, o.op = .call { callee := .value fo, args := args, argTypes := ts } ∧ cOpd fo = some f ∧ cOpds args.toList = some xs := by
  have noBin : ∀ {b ts ys}, cBuiltin P b ts ys ≠ some (.call f xs) := by
    intro b ts ys hc
    unfold cBuiltin at hc
    split at hc
    · (repeat' split at hc) <;> first | (cases hc; done) | (obtain ⟨_, _, h⟩ := Option.map_eq_some_iff.1 hc; cases h)
    · (repeat' split at hc) <;> first | (cases hc; done) | (injection hc with hc; cases hc)
    · unfold cAppend at hc
      (repeat' split at hc) <;> first | (cases hc; done) | (injection hc with hc; cases hc)
    · unfold cCopy at hc
      (repeat' split at hc) <;> first | (cases hc; done) | (injection hc with hc; cases hc)
    · obtain ⟨_, _, h⟩ := Option.map_eq_some_iff.1 hc; cases h
    · obtain ⟨_, _, h⟩ := Option.map_eq_some_iff.1 hc; cases h
    · cases hc
  cases ho : o.op with
  | call c =>
    rw [ho] at h
    obtain ⟨callee, args, ts⟩ := c
    simp only [cOp] at h
    split at h
    · rename_i b hb
      exact absurd h noBin
    · rename_i fo
      split at h
      · rename_i f' xs' h1 h2
        injection h with h
        injection h with h3 h4
        subst h3 h4
        exact ⟨fo, args, ts, rfl, h1, h2⟩
      · cases h
    · cases h
  | move x => rw [ho] at h; obtain ⟨_, _, h⟩ := Option.map_eq_some_iff.1 h; cases h
  | assign x => rw [ho] at h; obtain ⟨_, _, h⟩ := Option.map_eq_some_iff.1 h; cases h
  | pick c x y => rw [ho] at h; simp only [cOp] at h; (repeat' split at h) <;> first | (cases h; done) | (injection h with h; cases h)
  | load t x => rw [ho] at h; simp only [cOp] at h; unfold cLoad at h; (repeat' split at h) <;> first | (cases h; done) | (injection h with h; cases h)
  | store t x y => rw [ho] at h; simp only [cOp] at h; unfold cStore at h; (repeat' split at h) <;> first | (cases h; done) | (injection h with h; cases h)
  | alloc t => rw [ho] at h; obtain ⟨_, _, h⟩ := Option.map_eq_some_iff.1 h; cases h
  | box t x => rw [ho] at h; obtain ⟨_, _, h⟩ := Option.map_eq_some_iff.1 h; cases h
  | build t ps => rw [ho] at h; simp only [cOp] at h; unfold cBuild at h; (repeat' split at h) <;> first | (cases h; done) | (obtain ⟨_, _, h⟩ := Option.map_eq_some_iff.1 h; cases h)
  | buildSlice t l ps => rw [ho] at h; simp only [cOp] at h; unfold cBuildSl at h; (repeat' split at h) <;> first | (cases h; done) | (obtain ⟨_, _, h⟩ := Option.map_eq_some_iff.1 h; cases h)
  | fieldAddr s x f => rw [ho] at h; simp only [cOp] at h; unfold cFieldAddr at h; (repeat' split at h) <;> first | (cases h; done) | (injection h with h; cases h)
  | field s x f => rw [ho] at h; simp only [cOp] at h; unfold cField at h; (repeat' split at h) <;> first | (cases h; done) | (injection h with h; cases h)
  | indexAddr t x i => rw [ho] at h; simp only [cOp] at h; unfold cIndexAddr at h; (repeat' split at h) <;> first | (cases h; done) | (injection h with h; cases h)
  | index t x i => rw [ho] at h; simp only [cOp] at h; unfold cIndex at h; (repeat' split at h) <;> first | (cases h; done) | (injection h with h; cases h)
  | slice t x lo hi mx => rw [ho] at h; simp only [cOp] at h; unfold cSlice at h; (repeat' split at h) <;> first | (cases h; done) | (injection h with h; cases h)
  | convert s t x => rw [ho] at h; simp only [cOp] at h; unfold cConv at h; (repeat' split at h) <;> first | (cases h; done) | (injection h with h; cases h)
  | unOp op t x => rw [ho] at h; simp only [cOp] at h; (repeat' split at h) <;> first | (cases h; done) | (obtain ⟨_, _, h⟩ := Option.map_eq_some_iff.1 h; cases h)
  | binOp op t x y t' => rw [ho] at h; simp only [cOp] at h; unfold cBin at h; (repeat' split at h) <;> first | (cases h; done) | (injection h with h; cases h)
  | extract x i => rw [ho] at h; obtain ⟨_, _, h⟩ := Option.map_eq_some_iff.1 h; cases h
  | makeInterface t x => rw [ho] at h; simp only [cOp] at h; (repeat' split at h) <;> first | (cases h; done) | (obtain ⟨_, _, h⟩ := Option.map_eq_some_iff.1 h; cases h)
  | makeFunc fn first caps => rw [ho] at h; simp only [cOp] at h; (repeat' split at h) <;> first | (cases h; done) | (obtain ⟨_, _, h⟩ := Option.map_eq_some_iff.1 h; cases h)
  | makeSlice t l c => rw [ho] at h; simp only [cOp] at h; unfold cMakeSl at h; (repeat' split at h) <;> first | (cases h; done) | (injection h with h; cases h)
  | nilCheck x => rw [ho] at h; obtain ⟨_, _, h⟩ := Option.map_eq_some_iff.1 h; cases h
  | _ => rw [ho] at h; cases h
theorem call_ready (hE : EnvRep G (OwnF X st G) w n ρ a) {o : Oper} {f : Opd} {xs : List Opd} (hc : cOp P o.op = some (.call f xs)) {g : Nat} {caps : List PV} (hf : f.ev ρ = .func g caps) :
    ∃ vals : Array Value, (execOp a.eval o).run P w = (callFunc g vals).run P w ∧ vals.size = (xs.map (Opd.ev ρ) ++ caps).length ∧ ∀ (i : Nat) (c : PV), (xs.map (Opd.ev ρ) ++ caps)[i]? = some c → Rep G (OwnF X st G) w (vals.getD i undef) c := by
  obtain ⟨fo, args, ts, ho, h1, h2⟩ := cOp_call hc
  have hr := opd_rep hE h1
  rw [hf] at hr
  obtain ⟨vs, hv, hs, hrep⟩ := func_rep hr
  obtain ⟨k1, k2⟩ := args_rep (hI := trivial) hE h2 hs hrep
  exact ⟨_, run_callOp ho hv, k1, k2⟩
theorem view_args (hI : Inv X st G w) {live : Bool} {own : Nat → Prop} (ho : ∀ b, own b → OwnF X st G b) (hlv : live = true → ∀ b, own b → X.F b) {xs ys : List PV} (hv : ViewL live st.get xs ys) {vals : Array Value} (hs : vals.size = xs.length) (hr : ∀ (i : Nat) (c : PV), xs[i]? = some c → Rep G (OwnF X st G) w (vals.getD i undef) c) :
    vals.size = ys.length ∧ ∀ (i : Nat) (c : PV), ys[i]? = some c → Rep noG own w (vals.getD i undef) c := by
  refine ⟨by rw [hs, hv.1], fun i c hc => ?_⟩
  obtain ⟨x, hx⟩ := get_some hv.1 hc
  exact view_rep hI ho hlv (hv.2 i x c hx hc) (hr i x hx)
theorem noG_rep {own own' : Nat → Prop} {v : Value} {r : PV} (h : Rep noG own w v r) (ho : ∀ b, own' b → own b) : Rep G own' w v r :=
  h.mono (fun t g L h => by cases h) (Chg.refl (fun _ => False) w) (fun b h => h.elim) (fun b h => .inl (ho b h))
theorem wp_call (hI : Inv X st G w) (hE : EnvRep G (OwnF X st G) w n ρ a) {o : Oper} {d : Option Nat} (hd : o.dst = d) (hn : dstOk n d = true) {f : Opd} {xs : List Opd} (hc : cOp P o.op = some (.call f xs)) {g : Nat} {caps : List PV} (hf : f.ev ρ = .func g caps) {args : List PV} {r : PV} (hs : SemCall P g args r)
    (hv : ViewL false st.get (xs.map (Opd.ev ρ) ++ caps) args ∨ (ViewL true st.get (xs.map (Opd.ev ρ) ++ caps) args ∧ scalarR r = true)) {K : Act → World → Prop} {Q : Exit → Act → World → Prop} (hK : ∀ w' a', Inv X st G w' → EnvRep G (OwnF X st G) w' n (Env.put ρ d r) a' → K a' w') : o.wp P a w K Q := by
  obtain ⟨vals, hrun, hsz, hrep⟩ := call_ready hE hc hf
  obtain ⟨⟨fn, c, e1, e2, e3⟩, hsem⟩ := hs
  subst hd
  have fin : ∀ (F : Nat → Prop), (∀ b, F b → b < w.heap.size) → vals.size = args.length → (∀ (i : Nat) (c : PV), args[i]? = some c → Rep noG F w (vals.getD i undef) c) → (∀ (u : Value) (w' : World), Rep noG F w' u r → Rep G (OwnF X st G) w' u r) → o.wp P a w K Q := by
    intro F hF h1 h2 h3
    unfold Oper.wp
    rw [hrun, run_enter e1 e3 e2, Oper.upon_enter]
    refine (hsem F w vals hF hI.gl h1 h2).mono fun e w' ⟨u, he, hb, hr⟩ => ?_
    subst he
    obtain ⟨k1, k2⟩ := inv_below hI hb
    exact hK w' _ k1 ((k2.env hE).put (dst_lt hn) (h3 u w' hr))
  rcases hv with hv | ⟨hv, hsc⟩
  · obtain ⟨k1, k2⟩ := view_args hI (own := OwnF X st G) (fun _ h => h) (fun h => by cases h) hv hsz hrep
    exact fin (OwnF X st G) (fun b hb => own_lt_size hI hb) k1 k2 (fun u w' hr => noG_rep hr (fun _ h => h))
  · obtain ⟨k1, k2⟩ := view_args hI (own := fun _ => False) (fun _ h => h.elim) (fun _ _ h => h.elim) hv hsz hrep
    exact fin (fun _ => False) (fun b hb => hb.elim) k1 k2 (fun u w' hr => scalar_rep hsc hr)
theorem wp_ext (hI : Inv X st G w) (hE : EnvRep G (OwnF X st G) w n ρ a) {o : Oper} {d : Option Nat} (hd : o.dst = d) (hn : dstOk n d = true) {f : Opd} {xs : List Opd} (hc : cOp P o.op = some (.call f xs)) {g : Nat} {caps : List PV} (hf : f.ev ρ = .func g caps) {args : List PV} {r : PV} (hs : SemExt P g args r)
    (hv : ViewL true st.get (xs.map (Opd.ev ρ) ++ caps) args) (hsc : scalarR r = true) {K : Act → World → Prop} {Q : Exit → Act → World → Prop} (hK : After X n st (Env.put ρ d r) K) : o.wp P a w K Q := by
  obtain ⟨vals, hrun, hsz, hrep⟩ := call_ready hE hc hf
  subst hd
  obtain ⟨k1, k2⟩ := view_args hI (own := fun _ => False) (fun _ h => h.elim) (fun _ _ h => h.elim) hv hsz hrep
  obtain ⟨u, w', e1, e2, e3⟩ := hs (fun _ => False) w vals k1 k2
  unfold Oper.wp
  rw [hrun, e1, Oper.upon_value]
  obtain ⟨m1, m2⟩ := inv_below hI e2
  exact hK G w' _ m1 ((m2.env hE).put (dst_lt hn) (scalar_rep hsc e3))
theorem ownF_join (hI : Inv X st G w) {q τ : List (Nat × Tok)} (hp : Parts st q τ) {st1 : St} {G1 : Gh} {w1 : World} (hI1 : Inv (partCx X st G w q τ) st1 G1 w1) {b : Nat} (h : OwnF X (joinSt st q st1) G1 b) : OwnF (partCx X st G w q τ) st1 G1 b := by
  rcases h with h | ⟨t, k, L, h1, h2, h3, h4⟩
  · exact .inl (.inl h)
  · unfold St.get joinSt at h1
    rw [getA_append] at h1
    split at h1
    · rename_i k' hk
      injection h1 with h1
      subst h1
      refine .inl (.inr ⟨t, k', L, hk, h2, ?_, h4⟩)
      rcases hI1.newg t _ L h3 with h5 | ⟨k2, h5⟩ | h5
      · exact h5
      · rcases (hp t).2 with h6 | h6
        · rw [hk] at h6; cases h6
        · rw [h5] at h6; cases h6
      · have hlt := get_lt hI (parts_q hp hk)
        exact absurd hlt (by
          intro hlt
          have hold := hI.toks t k' (parts_q hp hk)
          have : ∃ L0, G t k'.gen = some L0 := by
            cases k' with
            | var cs => obtain ⟨L0, e, _⟩ := hold; exact ⟨L0, e⟩
            | row g sz es lv => obtain ⟨L0, e, _⟩ := hold; exact ⟨L0, e⟩
          obtain ⟨L0, e0⟩ := this
          have := (hI1.old t k'.gen L0 e0).1
          omega)
    · exact .inr ⟨t, k, L, h1, h2, h3, h4⟩
theorem wp_raw (hI : Inv X st G w) (hE : EnvRep G (OwnF X st G) w n ρ a) {o : Oper} {d : Option Nat} (hd : o.dst = d) (hn : dstOk n d = true) {f : Opd} {xs : List Opd} (hc : cOp P o.op = some (.call f xs)) {g : Nat} {caps : List PV} (hf : f.ev ρ = .func g caps) {q τ : List (Nat × Tok)} (hp : Parts st q τ) {r : PV} {st1 : St} (hb : st1.base = st.next)
    (hs : SemRaw P g (xs.map (Opd.ev ρ) ++ caps) (partSt st τ) r st1) {K : Act → World → Prop} {Q : Exit → Act → World → Prop} (hK : After X n (joinSt st q st1) (Env.put ρ d r) K) : o.wp P a w K Q := by
  obtain ⟨vals, hrun, hsz, hrep⟩ := call_ready hE hc hf
  obtain ⟨⟨fn, c, e1, e2, e3⟩, hsem⟩ := hs
  subst hd
  unfold Oper.wp
  rw [hrun, run_enter e1 e3 e2, Oper.upon_enter]
  refine (hsem (partCx X st G w q τ) G w vals (inv_part hI hp) hsz (fun i c hc => by rw [ownF_part hp]; exact hrep i c hc)).mono fun e w' ⟨u, he, G', hI1, hr⟩ => ?_
  subst he
  obtain ⟨k1, k2⟩ := inv_join hI hp hb hI1
  refine hK G' w' _ k1 ((k2.env hE).put (dst_lt hn) ?_)
  exact hr.mono (fun _ _ _ h => h) (Chg.refl (fun _ => False) w') (fun b h => h.elim) (fun b h => .inl (ownF_join hI hp hI1 h))
end
end Go.AM
set_option linter.unusedVariables false
set_option linter.unusedSimpArgs false
namespace Go.AM
open Go.RowKit
variable [Gl]
def YSem (P : Program) (st : St) (o : POp) (ρ : Env) (p : PV) : Prop :=
  (gd (getA · ρ) o.guard = some false ∧ p = .tuple []) ∨
  (gd (getA · ρ) o.guard = some true ∧ (quiet st.get (Opd.ev ρ) o.op = some p ∨ ∃ f xs g caps args, o.op = .call f xs ∧ f.ev ρ = .func g caps ∧ SemCall P g args p ∧
    (ViewL false st.get (xs.map (Opd.ev ρ) ++ caps) args ∨ (ViewL true st.get (xs.map (Opd.ev ρ) ++ caps) args ∧ scalarR p = true))))
def LexD (P : Program) (st : St) : List POp → Env → Env → Prop
  | [], ρ, ρ' => ρ' = ρ
  | o :: l, ρ, ρ' => ∃ p, YSem P st o ρ p ∧ LexD P st l (Env.put ρ o.dst p) ρ'
theorem ev_congr {ρ ρ' : Env} {x : Opd} (h : ∀ t ∈ x.tmps, getA t ρ = getA t ρ') : x.ev ρ = x.ev ρ' := by
  cases x with
  | t n => simp only [Opd.ev, Env.at]; rw [h n (by simp [Opd.tmps])]
  | c p => rfl
theorem evs_congr {ρ ρ' : Env} {xs : List Opd} (h : ∀ t ∈ xs.flatMap Opd.tmps, getA t ρ = getA t ρ') : xs.map (Opd.ev ρ) = xs.map (Opd.ev ρ') := by
  apply List.map_congr_left
  intro x hx
  exact ev_congr fun t ht => h t (List.mem_flatMap.2 ⟨x, hx, ht⟩)
theorem opt_congr {ρ ρ' : Env} {x : Option Opd} (h : ∀ t ∈ optTmps x, getA t ρ = getA t ρ') : x.map (Opd.ev ρ) = x.map (Opd.ev ρ') := by
  cases x with
  | none => rfl
  | some x => simp only [Option.map_some]; rw [ev_congr h]
theorem quiet_congr {look : Nat → Option Tok} {ρ ρ' : Env} {pi : PI} (h : ∀ t ∈ pi.tmps, getA t ρ = getA t ρ') : quiet look (Opd.ev ρ) pi = quiet look (Opd.ev ρ') pi := by
  cases pi with
  | move x => simp only [quiet]; rw [ev_congr h]
  | pick c a b =>
    simp only [PI.tmps, List.mem_append] at h
    simp only [quiet]
    rw [ev_congr (fun t ht => h t (.inl ht)), ev_congr (fun t ht => h t (.inr (.inl ht))), ev_congr (fun t ht => h t (.inr (.inr ht)))]
  | load n agg a => simp only [quiet]; rw [ev_congr h]
  | build zero ps =>
    simp only [quiet]
    have : (ps.map fun p => (p.1, p.2.1, Opd.ev ρ p.2.2)) = ps.map fun p => (p.1, p.2.1, Opd.ev ρ' p.2.2) := by
      apply List.map_congr_left
      intro p hp
      rw [ev_congr fun t ht => h t (List.mem_flatMap.2 ⟨p, hp, ht⟩)]
    rw [this]
  | buildSl sz zero ps =>
    simp only [quiet]
    have : (ps.map fun p => (p.1, Opd.ev ρ p.2)) = ps.map fun p => (p.1, Opd.ev ρ' p.2) := by
      apply List.map_congr_left
      intro p hp
      rw [ev_congr fun t ht => h t (List.mem_flatMap.2 ⟨p, hp, ht⟩)]
    rw [this]
  | fieldAddr x d => simp only [quiet]; rw [ev_congr h]
  | field x off n agg => simp only [quiet]; rw [ev_congr h]
  | indexA x y l s =>
    simp only [PI.tmps, List.mem_append] at h
    simp only [quiet]; rw [ev_congr (fun t ht => h t (.inl ht)), ev_congr (fun t ht => h t (.inr ht))]
  | indexS x y s =>
    simp only [PI.tmps, List.mem_append] at h
    simp only [quiet]; rw [ev_congr (fun t ht => h t (.inl ht)), ev_congr (fun t ht => h t (.inr ht))]
  | indexStr x y =>
    simp only [PI.tmps, List.mem_append] at h
    simp only [quiet]; rw [ev_congr (fun t ht => h t (.inl ht)), ev_congr (fun t ht => h t (.inr ht))]
  | sliceStr x lo hi =>
    simp only [PI.tmps, List.mem_append] at h
    simp only [quiet]; rw [ev_congr (fun t ht => h t (.inl ht)), opt_congr (fun t ht => h t (.inr (.inl ht))), opt_congr (fun t ht => h t (.inr (.inr ht)))]
  | sliceSl x s lo hi mx =>
    simp only [PI.tmps, List.mem_append] at h
    simp only [quiet]; rw [ev_congr (fun t ht => h t (.inl ht)), opt_congr (fun t ht => h t (.inr (.inl ht))), opt_congr (fun t ht => h t (.inr (.inr (.inl ht)))), opt_congr (fun t ht => h t (.inr (.inr (.inr ht))))]
  | sliceArr x l s lo hi mx =>
    simp only [PI.tmps, List.mem_append] at h
    simp only [quiet]; rw [ev_congr (fun t ht => h t (.inl ht)), opt_congr (fun t ht => h t (.inr (.inl ht))), opt_congr (fun t ht => h t (.inr (.inr (.inl ht)))), opt_congr (fun t ht => h t (.inr (.inr (.inr ht))))]
  | conv k x => simp only [quiet]; rw [ev_congr h]
  | toBytes x => simp only [quiet]; rw [ev_congr h]
  | toStr x => simp only [quiet]; rw [ev_congr h]
  | textId x => simp only [quiet]; rw [ev_congr h]
  | neg x => simp only [quiet]; rw [ev_congr h]
  | not x => simp only [quiet]; rw [ev_congr h]
  | bin op x y =>
    simp only [PI.tmps, List.mem_append] at h
    simp only [quiet]; rw [ev_congr (fun t ht => h t (.inl ht)), ev_congr (fun t ht => h t (.inr ht))]
  | eqNil neq k x => simp only [quiet]; rw [ev_congr h]
  | eqBool neq x y =>
    simp only [PI.tmps, List.mem_append] at h
    simp only [quiet]; rw [ev_congr (fun t ht => h t (.inl ht)), ev_congr (fun t ht => h t (.inr ht))]
  | eqAgg neq ks x y =>
    simp only [PI.tmps, List.mem_append] at h
    simp only [quiet]; rw [ev_congr (fun t ht => h t (.inl ht)), ev_congr (fun t ht => h t (.inr ht))]
  | extract x i => simp only [quiet]; rw [ev_congr h]
  | mkIface ty x => simp only [quiet]; rw [ev_congr h]
  | mkFunc f caps => simp only [quiet]; rw [evs_congr h]
  | nilCheck x => simp only [quiet]; rw [ev_congr h]
  | len txt x => simp only [quiet]; rw [ev_congr h]
  | cap x => simp only [quiet]; rw [ev_congr h]
  | minmax mx xs => simp only [quiet]; rw [evs_congr h]
  | store n a x => rfl
  | alloc cs => rfl
  | box x => rfl
  | makeSl sz z b l c => rfl
  | append sz b z s x => rfl
  | appendZ sz b z s x => rfl
  | copy sz d s => rfl
  | call f xs => rfl
theorem gd_congr {ρ ρ' : Env} {g : Option (Nat × Bool)} (h : ∀ t w, g = some (t, w) → getA t ρ = getA t ρ') : gd (getA · ρ) g = gd (getA · ρ') g := by
  cases g with
  | none => rfl
  | some x => obtain ⟨t, w⟩ := x; simp only [gd]; rw [h t w rfl]
section
variable {P : Program} {st : St}
theorem ysem_congr {ρ ρ' : Env} {o : POp} {p : PV} (h : ∀ t ∈ o.tmps, getA t ρ = getA t ρ') (hy : YSem P st o ρ p) : YSem P st o ρ' p := by
  have hg : gd (getA · ρ) o.guard = gd (getA · ρ') o.guard := gd_congr fun t w e => h t (by simp [POp.tmps, e])
  have ho : ∀ t ∈ o.op.tmps, getA t ρ = getA t ρ' := fun t ht => h t (by simp [POp.tmps, ht])
  rcases hy with ⟨h1, h2⟩ | ⟨h1, h2⟩
  · exact .inl ⟨by rw [← hg]; exact h1, h2⟩
  · refine .inr ⟨by rw [← hg]; exact h1, ?_⟩
    rcases h2 with h2 | ⟨f, xs, g, caps, args, e1, e2, e3, e4⟩
    · exact .inl (by rw [← quiet_congr ho]; exact h2)
    · rw [e1] at ho
      simp only [PI.tmps, List.mem_append] at ho
      have h3 : xs.map (Opd.ev ρ') = xs.map (Opd.ev ρ) := (evs_congr fun t ht => (ho t (.inr ht))).symm
      exact .inr ⟨f, xs, g, caps, args, e1, by rw [← ev_congr (fun t ht => ho t (.inl ht))]; exact e2, e3, by rw [h3]; exact e4⟩
def EqA (ρ ρ' : Env) : Prop := ∀ t, getA t ρ = getA t ρ'
theorem EqA.put {ρ ρ' : Env} (h : EqA ρ ρ') (d : Option Nat) (p : PV) : EqA (Env.put ρ d p) (Env.put ρ' d p) := by
  intro t
  cases d with
  | none => exact h t
  | some d => simp only [Env.put, getA_putA]; rw [h t]
theorem put_comm {ρ : Env} {d e : Option Nat} (h : ∀ x, d = some x → e ≠ some x) (p q : PV) : EqA (Env.put (Env.put ρ d p) e q) (Env.put (Env.put ρ e q) d p) := by
  intro t
  cases d with
  | none => rfl
  | some d =>
    cases e with
    | none => rfl
    | some e =>
      have hne : d ≠ e := fun he => h d rfl (by rw [he])
      simp only [Env.put, getA_putA]
      by_cases h1 : e = t
      · by_cases h2 : d = t
        · exact absurd (h2.trans h1.symm) hne
        · rw [if_pos h1, if_neg h2, if_pos h1]
      · rw [if_neg h1, if_neg h1]
theorem put_other {ρ : Env} {d : Option Nat} {p : PV} {t : Nat} (h : d ≠ some t) : getA t (Env.put ρ d p) = getA t ρ := by
  cases d with
  | none => rfl
  | some d =>
    simp only [Env.put, getA_putA]
    rw [if_neg (fun e => h (by rw [e]))]
def anyD (P : Program) (st : St) (ops : Array Oper) (L : List POp) (ρ' : Env) : Nat → Array Bool → Env → Prop
  | 0, listed, ρ => Region.ready .any ops listed = [] ∧ EqA ρ ρ'
  | fuel + 1, listed, ρ => (Region.ready .any ops listed = [] → EqA ρ ρ') ∧ ∀ i ∈ Region.ready .any ops listed, ∃ o p, L[i]? = some o ∧ YSem P st o ρ p ∧ anyD P st ops L ρ' fuel (listed.setIfInBounds i true) (Env.put ρ o.dst p)
theorem anyD_eqv {ops : Array Oper} {L : List POp} {ρ' : Env} : ∀ (fuel : Nat) (listed : Array Bool) (ρ ρ1 : Env), EqA ρ ρ1 → anyD P st ops L ρ' fuel listed ρ → anyD P st ops L ρ' fuel listed ρ1
  | 0, listed, ρ, ρ1, he, h => ⟨h.1, fun t => (he t).symm.trans (h.2 t)⟩
  | fuel + 1, listed, ρ, ρ1, he, h => ⟨fun hr t => (he t).symm.trans (h.1 hr t), fun i hi => by
      obtain ⟨o, p, h1, h2, h3⟩ := h.2 i hi
      exact ⟨o, p, h1, ysem_congr (fun t _ => he t) h2, anyD_eqv fuel _ _ _ (he.put _ _) h3⟩⟩
theorem tmpsOk_spec {ops : Array Oper} : ∀ {lo : List Oper} {l : List POp}, tmpsOk ops lo l = true → lo.length = l.length ∧ ∀ (j : Nat) (O : Oper) (o : POp), lo[j]? = some O → l[j]? = some o → (∀ t ∈ o.tmps, t ∈ O.looksAt ops) ∧ o.dst = O.dst
  | [], [], _ => ⟨rfl, fun j O o h => by simp at h⟩
  | [], _ :: _, h => by cases h
  | _ :: _, [], h => by cases h
  | O :: lo, o :: l, h => by
    simp only [tmpsOk, Bool.and_eq_true, List.all_eq_true, decide_eq_true_eq] at h
    obtain ⟨⟨h1, h2⟩, h3⟩ := h
    obtain ⟨k1, k2⟩ := tmpsOk_spec h3
    refine ⟨by simp [k1], fun j O' o' hj hj' => ?_⟩
    cases j with
    | zero =>
      simp at hj hj'
      subst hj hj'
      exact ⟨fun t ht => by simpa using h1 t ht, h2⟩
    | succ j => exact k2 j O' o' (by simpa using hj) (by simpa using hj')
theorem anyD_first {ops : Array Oper} {L : List POp} {ρ' : Env} (hok : tmpsOk ops ops.toList L = true) {i : Nat} {oi : POp} {Oi : Oper} {v : PV} (hi : L[i]? = some oi) (hiO : ops[i]? = some Oi) :
    ∀ (fuel : Nat) (listed : Array Bool) (ρ : Env),
      (∀ j Oj, ops[j]? = some Oj → j ≠ i → listed.getD j true = false → (∀ e ∈ Oj.after, Region.binds .any e = true → e.on ≠ i) → Oi.apart ops Oj = true) →
      i ∈ Region.ready .any ops listed → YSem P st oi ρ v → anyD P st ops L ρ' fuel (listed.setIfInBounds i true) (Env.put ρ oi.dst v) → anyD P st ops L ρ' (fuel + 1) listed ρ := by
  intro fuel
  induction fuel with
  | zero =>
    intro listed ρ _ hr hy H
    refine ⟨fun h => (by rw [h] at hr; cases hr), fun j hj => ?_⟩
    by_cases hji : j = i
    · subst hji; exact ⟨oi, v, hi, hy, H⟩
    · have := ready_mono hj hji
      rw [H.1] at this
      cases this
  | succ fuel ih =>
    intro listed ρ hfree hr hy H
    refine ⟨fun h => (by rw [h] at hr; cases hr), fun j hj => ?_⟩
    by_cases hji : j = i
    · subst hji; exact ⟨oi, v, hi, hy, H⟩
    · obtain ⟨oj, u, hLj, hyj, hrest⟩ := H.2 j (ready_mono hj hji)
      obtain ⟨hjun, Oj, hOj, hall⟩ := mem_ready.1 hj
      have hnot : ∀ e ∈ Oj.after, Region.binds .any e = true → e.on ≠ i := fun e he hb heq => by
        have h1 := hall e he hb
        have h0 := (mem_ready.1 hr).1
        rw [heq] at h1
        rcases Nat.lt_or_ge i listed.size with h' | h'
        · simp [h'] at h0 h1; rw [h0] at h1; cases h1
        · simp [Array.getElem?_eq_none h'] at h1
      have hap := hfree j Oj hOj hji hjun hnot
      obtain ⟨a1, a2, a3⟩ := Oper.apart_spec hap
      obtain ⟨_, hk⟩ := tmpsOk_spec hok
      obtain ⟨ti, di⟩ := hk i Oi oi (by simpa using hiO) hi
      obtain ⟨tj, dj⟩ := hk j Oj oj (by simpa using hOj) hLj
      have hyj' : YSem P st oj ρ u := ysem_congr (fun t ht => put_other (fun e => a1 t (by rw [← di]; exact e) (tj t ht))) hyj
      have hyi' : YSem P st oi (Env.put ρ oj.dst u) v := ysem_congr (fun t ht => (put_other (fun e => a3 t (by rw [← dj]; exact e) (ti t ht))).symm) hy
      refine ⟨oj, u, hLj, hyj', ih (listed.setIfInBounds j true) (Env.put ρ oj.dst u) (fun k Ok hk hki hun hno => ?_) (ready_mono hr (Ne.symm hji)) hyi' ?_⟩
      · refine hfree k Ok hk hki ?_ hno
        by_cases hjk : j = k
        · subst hjk; exact hjun
        · rw [getD_set_ne true hjk] at hun; exact hun
      · rw [Array.setIfInBounds_comm _ _ hji]
        refine anyD_eqv fuel _ _ _ (put_comm (fun x hx => ?_) v u) hrest
        rw [dj]
        exact a2 x (by rw [← di]; exact hx)
theorem anyD_lex {ops : Array Oper} {L : List POp} {ρ' : Env} (hok : tmpsOk ops ops.toList L = true) : ∀ (l : List Oper) (pl : List POp) (k : Nat) (listed : Array Bool) (ρ : Env), l.length = pl.length → (∀ j, l[j]? = ops[k + j]?) → (∀ j, pl[j]? = L[k + j]?) →
    Region.lexFrom .any ops l.length k listed = true → LexD P st pl ρ ρ' → anyD P st ops L ρ' l.length listed ρ
  | [], [], _, _, _, _, _, _, hB, h => ⟨by simpa [Region.lexFrom] using hB, fun t => by rw [show ρ' = _ from h]⟩
  | [], _ :: _, _, _, _, hl, _, _, _, _ => by cases hl
  | _ :: _, [], _, _, _, hl, _, _, _, _ => by cases hl
  | O :: l, o :: pl, k, listed, ρ, hlen, hl, hp, hB, h => by
    have h0 : ops[k]? = some O := by simpa using (hl 0).symm
    have h1 : L[k]? = some o := by simpa using (hp 0).symm
    simp only [List.length_cons, Region.lexFrom, Bool.and_eq_true] at hB
    obtain ⟨⟨hr, hf⟩, hB'⟩ := hB
    obtain ⟨p, hy, hrest⟩ := h
    exact anyD_first hok h1 h0 l.length listed ρ (Region.free_spec h0 hf) (by simpa using hr) hy
      (anyD_lex hok l pl (k + 1) _ _ (by simpa using hlen) (fun j => by have := hl (j + 1); simpa [Nat.add_assoc, Nat.add_comm 1 j] using this) (fun j => by have := hp (j + 1); simpa [Nat.add_assoc, Nat.add_comm 1 j] using this) hB' hrest)
end
section
variable {P : Program} {X : Cx} {st : St} {G : Gh} {n : Nat}
theorem cOps_get {ops : Array Oper} : ∀ {lo : List Oper} {l : List POp}, cOps P ops n lo = some l → lo.length = l.length ∧ ∀ (j : Nat) (O : Oper) (o : POp), lo[j]? = some O → l[j]? = some o → cPOp P ops n O = some o
  | [], l, h => by injection h with h; subst h; exact ⟨rfl, fun j O o h => by simp at h⟩
  | O :: lo, l, h => by
    simp only [cOps] at h
    split at h
    · rename_i p ps h1 h2
      injection h with h
      subst h
      obtain ⟨k1, k2⟩ := cOps_get h2
      refine ⟨by simp [k1], fun j O' o' hj hj' => ?_⟩
      cases j with
      | zero => simp at hj hj'; subst hj hj'; exact h1
      | succ j => exact k2 j O' o' (by simpa using hj) (by simpa using hj')
    · cases h
theorem cPOp_spec {ops : Array Oper} {O : Oper} {o : POp} (h : cPOp P ops n O = some o) : cGuard ops O.guard = some o.guard ∧ cOp P O.op = some o.op ∧ o.dst = O.dst ∧ dstOk n O.dst = true := by
  unfold cPOp at h
  split at h
  · rename_i g pi h1 h2
    split at h
    · rename_i h3
      injection h with h
      subst h
      exact ⟨h1, h2, rfl, h3⟩
    · cases h
  · cases h
theorem eqA_env {own : Nat → Prop} {w : World} {ρ ρ' : Env} {a : Act} (h : EnvRep G own w n ρ a) (he : EqA ρ ρ') : EnvRep G own w n ρ' a := ⟨h.defers, h.size, fun t p hp => h.reps t p (by rw [he t]; exact hp)⟩
theorem wpOp_ysem {ops : Array Oper} {w : World} {ρ : Env} {a : Act} (hI : Inv X st G w) (hE : EnvRep G (OwnF X st G) w n ρ a) {i : Nat} {O : Oper} {o : POp} (hO : ops[i]? = some O) (hc : cPOp P ops n O = some o) {p : PV} (hy : YSem P st o ρ p) {K : Act → World → Prop} {Q : Exit → Act → World → Prop}
    (hK : ∀ w' a', Inv X st G w' → EnvRep G (OwnF X st G) w' n (Env.put ρ o.dst p) a' → K a' w') : wpOp P ops Q i K a w := by
  obtain ⟨h1, h2, h3, h4⟩ := cPOp_spec hc
  unfold wpOp
  simp only [hO]
  rcases hy with ⟨hg, rfl⟩ | ⟨hg, hh⟩
  · rw [gd_wanted hE h1 hg]
    simp only [Bool.false_eq_true, if_false]
    rw [h3] at hK
    exact hK w _ hI (hE.put (dst_lt h4) undef_rep)
  · rw [gd_wanted hE h1 hg]
    simp only [if_true]
    refine .inl ?_
    rcases hh with hq | ⟨f, xs, g, caps, args, e1, e2, e3, e4⟩
    · obtain ⟨u, w', r1, r2, r3⟩ := (step_sound hI hE h2).1 p hq
      obtain ⟨m1, m2⟩ := inv_below hI r2
      unfold Oper.wp
      rw [r1, Oper.upon_value]
      rw [h3] at hK
      exact hK w' _ m1 ((m2.env hE).put (dst_lt h4) r3)
    · rw [e1] at h2
      exact wp_call hI hE h3.symm (by rw [h3]; exact h4) h2 e2 e3 e4 hK
theorem wpAny_of_anyD {ops : Array Oper} {L : List POp} {ρ' : Env} (hc : cOps P ops n ops.toList = some L) {Q : Exit → Act → World → Prop} (hQ : ∀ a w ρ, Inv X st G w → EnvRep G (OwnF X st G) w n ρ a → EqA ρ ρ' → Q .normal a w) :
    ∀ (fuel : Nat) (listed : Array Bool) (ρ : Env) (a : Act) (w : World), Inv X st G w → EnvRep G (OwnF X st G) w n ρ a → anyD P st ops L ρ' fuel listed ρ → wpAny P .any ops Q fuel listed a w
  | 0, _, ρ, a, w, hI, hE, h => ⟨h.1, hQ a w ρ hI hE h.2⟩
  | fuel + 1, listed, ρ, a, w, hI, hE, h => ⟨fun h0 => hQ a w ρ hI hE (h.1 h0), fun i hi => by
      obtain ⟨o, p, h1, h2, h3⟩ := h.2 i hi
      obtain ⟨_, O, hO, _⟩ := mem_ready.1 hi
      exact wpOp_ysem hI hE hO ((cOps_get hc).2 i O o (by simpa using hO) h1) h2 (fun w' a' hI' hE' => wpAny_of_anyD hc hQ fuel _ _ a' w' hI' hE' h3)⟩
theorem wp_drawn {id : Nat} {ops : Array Oper} {L : List POp} {w : World} {ρ ρ' : Env} {a : Act} {Q : Exit → Act → World → Prop} (hm : P.follows .mixedOrders = true) (hB : Region.lexB .any ops = true) (hok : tmpsOk ops ops.toList L = true) (hc : cOps P ops n ops.toList = some L)
    (hI : Inv X st G w) (hE : EnvRep G (OwnF X st G) w n ρ a) (hl : LexD P st L ρ ρ') (hQ : ∀ a w, Inv X st G w → EnvRep G (OwnF X st G) w n ρ' a → Q .normal a w) : (Code.region id ops true).wp P Q a w := by
  simp only [Region.lexB, Bool.and_eq_true] at hB
  have hd : Below w.heap.size w { w with drawn := w.drawn + 1 } := ⟨rfl, rfl, rfl, Nat.le_refl _, fun _ _ => rfl⟩
  obtain ⟨m1, m2⟩ := inv_below hI hd
  refine wp_region_any hm ?_
  have := anyD_lex (P := P) (st := st) hok ops.toList L 0 (Array.replicate ops.size false) ρ (by simpa using (tmpsOk_spec hok).1) (by simp) (by simp) (by simpa using hB.2) hl
  refine wpAny_of_anyD hc (fun a w ρ1 h1 h2 h3 => hQ a w h1 (eqA_env h2 h3)) _ _ ρ a _ m1 (m2.env hE) ?_
  simpa using this
end
theorem loud_congr {st : St} {ρ ρ' : Env} {pi : PI} (h : ∀ t ∈ pi.tmps, getA t ρ = getA t ρ') : loud st (Opd.ev ρ) pi = loud st (Opd.ev ρ') pi := by
  cases pi with
  | store n a x =>
    simp only [PI.tmps, List.mem_append] at h
    simp only [loud]; rw [ev_congr (fun t ht => h t (.inl ht)), ev_congr (fun t ht => h t (.inr ht))]
  | alloc cs => rfl
  | box x => simp only [loud]; rw [ev_congr h]
  | buildSl sz zero ps =>
    simp only [loud]
    have : (ps.map fun p => (p.1, Opd.ev ρ p.2)) = ps.map fun p => (p.1, Opd.ev ρ' p.2) := by
      apply List.map_congr_left
      intro p hp
      rw [ev_congr fun t ht => h t (List.mem_flatMap.2 ⟨p, hp, ht⟩)]
    rw [this]
  | makeSl sz z b l c =>
    simp only [PI.tmps, List.mem_append] at h
    simp only [loud]; rw [ev_congr (fun t ht => h t (.inl ht)), ev_congr (fun t ht => h t (.inr ht))]
  | appendZ sz b z s x =>
    simp only [PI.tmps, List.mem_append] at h
    simp only [loud]; rw [ev_congr (fun t ht => h t (.inl ht)), ev_congr (fun t ht => h t (.inr ht))]
  | append sz b z s x =>
    simp only [PI.tmps, List.mem_append] at h
    simp only [loud]; rw [ev_congr (fun t ht => h t (.inl ht)), ev_congr (fun t ht => h t (.inr ht))]
  | copy sz d s =>
    simp only [PI.tmps, List.mem_append] at h
    simp only [loud]; rw [ev_congr (fun t ht => h t (.inl ht)), ev_congr (fun t ht => h t (.inr ht))]
  | toBytes x => simp only [loud]; rw [ev_congr h]
  | _ => rfl
def LSem (P : Program) (st : St) (o : POp) (ρ : Env) (p : PV) (st1 : St) : Prop :=
  gd (getA · ρ) o.guard = some true ∧ (loud st (Opd.ev ρ) o.op = some (p, st1) ∨ ∃ f xs g caps q τ st2, o.op = .call f xs ∧ f.ev ρ = .func g caps ∧ Parts st q τ ∧ st2.base = st.next ∧ SemRaw P g (xs.map (Opd.ev ρ) ++ caps) (partSt st τ) p st2 ∧ st1 = joinSt st q st2)
def StepM (P : Program) (m : Nat) (A B : St) (k : Nat) (o : POp) (ρ : Env) (st : St) (p : PV) (st1 : St) : Prop :=
  (k ≠ m ∧ st1 = st ∧ (st = A ∨ st = B) ∧ YSem P A o ρ p ∧ YSem P B o ρ p) ∨ (k = m ∧ st = A ∧ st1 = B ∧ LSem P A o ρ p B)
def LexM (P : Program) (m : Nat) (A B : St) : Nat → List POp → Env → St → Env → St → Prop
  | k, [], ρ, st, ρ', st' => ρ' = ρ ∧ st' = st
  | k, o :: l, ρ, st, ρ', st' => ∃ p st1, StepM P m A B k o ρ st p st1 ∧ LexM P m A B (k + 1) l (Env.put ρ o.dst p) st1 ρ' st'
theorem stepM_congr {P : Program} {m k : Nat} {A B : St} {ρ ρ' : Env} {st : St} {o : POp} {p : PV} {st1 : St} (h : ∀ t ∈ o.tmps, getA t ρ = getA t ρ') (hy : StepM P m A B k o ρ st p st1) : StepM P m A B k o ρ' st p st1 := by
  have hg : gd (getA · ρ) o.guard = gd (getA · ρ') o.guard := gd_congr fun t w e => h t (by simp [POp.tmps, e])
  have ho : ∀ t ∈ o.op.tmps, getA t ρ = getA t ρ' := fun t ht => h t (by simp [POp.tmps, ht])
  rcases hy with ⟨hk, hs, hab, hy, hz⟩ | ⟨hk, hA, hB, h1, h2⟩
  · exact .inl ⟨hk, hs, hab, ysem_congr h hy, ysem_congr h hz⟩
  · refine .inr ⟨hk, hA, hB, by rw [← hg]; exact h1, ?_⟩
    rcases h2 with h2 | ⟨f, xs, g, caps, q, τ, st2, e1, e2, e3, e4, e5, e6⟩
    · exact .inl (by rw [← loud_congr ho]; exact h2)
    · rw [e1] at ho
      simp only [PI.tmps, List.mem_append] at ho
      have h3 : xs.map (Opd.ev ρ') = xs.map (Opd.ev ρ) := (evs_congr fun t ht => (ho t (.inr ht))).symm
      exact .inr ⟨f, xs, g, caps, q, τ, st2, e1, by rw [← ev_congr (fun t ht => ho t (.inl ht))]; exact e2, e3, e4, by rw [h3]; exact e5, e6⟩
theorem stepM_swap {P : Program} {m i j : Nat} {A B : St} (hij : i ≠ j) {oi oj : POp} {ρ ρ1 : Env} {st sti stij : St} {v u : PV} (hi : StepM P m A B i oi ρ st v sti) (hj : StepM P m A B j oj ρ1 sti u stij) :
    ∃ stj, StepM P m A B j oj ρ1 st u stj ∧ StepM P m A B i oi ρ stj v stij := by
  rcases hi with ⟨h1, rfl, h2, h3⟩ | ⟨h1, rfl, rfl, h2⟩
  · rcases hj with ⟨k1, rfl, k2, k3⟩ | ⟨k1, rfl, rfl, k2⟩
    · exact ⟨_, .inl ⟨k1, rfl, k2, k3⟩, .inl ⟨h1, rfl, h2, h3⟩⟩
    · exact ⟨stij, .inr ⟨k1, rfl, rfl, k2⟩, .inl ⟨h1, rfl, .inr rfl, h3⟩⟩
  · rcases hj with ⟨k1, rfl, k2, k3⟩ | ⟨k1, _, _, k2⟩
    · exact ⟨st, .inl ⟨k1, rfl, .inl rfl, k3⟩, .inr ⟨h1, rfl, rfl, h2⟩⟩
    · exact absurd (h1.trans k1.symm) hij
def anyM (P : Program) (m : Nat) (A B : St) (ops : Array Oper) (L : List POp) (ρ' : Env) (st' : St) : Nat → Array Bool → Env → St → Prop
  | 0, listed, ρ, st => Region.ready .any ops listed = [] ∧ EqA ρ ρ' ∧ st = st'
  | fuel + 1, listed, ρ, st => (Region.ready .any ops listed = [] → EqA ρ ρ' ∧ st = st') ∧ ∀ i ∈ Region.ready .any ops listed, ∃ o p st1, L[i]? = some o ∧ StepM P m A B i o ρ st p st1 ∧ anyM P m A B ops L ρ' st' fuel (listed.setIfInBounds i true) (Env.put ρ o.dst p) st1
section
variable {P : Program} {m : Nat} {A B : St} {ops : Array Oper} {L : List POp} {ρ' : Env} {st' : St}
theorem anyM_eqv : ∀ (fuel : Nat) (listed : Array Bool) (ρ ρ1 : Env) (st : St), EqA ρ ρ1 → anyM P m A B ops L ρ' st' fuel listed ρ st → anyM P m A B ops L ρ' st' fuel listed ρ1 st
  | 0, listed, ρ, ρ1, st, he, h => ⟨h.1, fun t => (he t).symm.trans (h.2.1 t), h.2.2⟩
  | fuel + 1, listed, ρ, ρ1, st, he, h => ⟨fun hr => ⟨fun t => (he t).symm.trans ((h.1 hr).1 t), (h.1 hr).2⟩, fun i hi => by
      obtain ⟨o, p, st1, h1, h2, h3⟩ := h.2 i hi
      exact ⟨o, p, st1, h1, stepM_congr (fun t _ => he t) h2, anyM_eqv fuel _ _ _ _ (he.put _ _) h3⟩⟩
theorem anyM_first (hok : tmpsOk ops ops.toList L = true) {i : Nat} {oi : POp} {Oi : Oper} {v : PV} (hi : L[i]? = some oi) (hiO : ops[i]? = some Oi) :
    ∀ (fuel : Nat) (listed : Array Bool) (ρ : Env) (st st1 : St),
      (∀ j Oj, ops[j]? = some Oj → j ≠ i → listed.getD j true = false → (∀ e ∈ Oj.after, Region.binds .any e = true → e.on ≠ i) → Oi.apart ops Oj = true) →
      i ∈ Region.ready .any ops listed → StepM P m A B i oi ρ st v st1 → anyM P m A B ops L ρ' st' fuel (listed.setIfInBounds i true) (Env.put ρ oi.dst v) st1 → anyM P m A B ops L ρ' st' (fuel + 1) listed ρ st := by
  intro fuel
  induction fuel with
  | zero =>
    intro listed ρ st st1 _ hr hy H
    refine ⟨fun h => (by rw [h] at hr; cases hr), fun j hj => ?_⟩
    by_cases hji : j = i
    · subst hji; exact ⟨oi, v, st1, hi, hy, H⟩
    · have := ready_mono hj hji
      rw [H.1] at this
      cases this
  | succ fuel ih =>
    intro listed ρ st st1 hfree hr hy H
    refine ⟨fun h => (by rw [h] at hr; cases hr), fun j hj => ?_⟩
    by_cases hji : j = i
    · subst hji; exact ⟨oi, v, st1, hi, hy, H⟩
    · obtain ⟨oj, u, st2, hLj, hyj, hrest⟩ := H.2 j (ready_mono hj hji)
      obtain ⟨hjun, Oj, hOj, hall⟩ := mem_ready.1 hj
      have hnot : ∀ e ∈ Oj.after, Region.binds .any e = true → e.on ≠ i := fun e he hb heq => by
        have h1 := hall e he hb
        have h0 := (mem_ready.1 hr).1
        rw [heq] at h1
        rcases Nat.lt_or_ge i listed.size with h' | h'
        · simp [h'] at h0 h1; rw [h0] at h1; cases h1
        · simp [Array.getElem?_eq_none h'] at h1
      have hap := hfree j Oj hOj hji hjun hnot
      obtain ⟨a1, a2, a3⟩ := Oper.apart_spec hap
      obtain ⟨_, hk⟩ := tmpsOk_spec hok
      obtain ⟨ti, di⟩ := hk i Oi oi (by simpa using hiO) hi
      obtain ⟨tj, dj⟩ := hk j Oj oj (by simpa using hOj) hLj
      obtain ⟨stj, hyj0, hyi0⟩ := stepM_swap (Ne.symm hji) hy hyj
      have hyj' : StepM P m A B j oj ρ st u stj := stepM_congr (fun t ht => put_other (fun e => a1 t (by rw [← di]; exact e) (tj t ht))) hyj0
      have hyi' : StepM P m A B i oi (Env.put ρ oj.dst u) stj v st2 := stepM_congr (fun t ht => (put_other (fun e => a3 t (by rw [← dj]; exact e) (ti t ht))).symm) hyi0
      refine ⟨oj, u, stj, hLj, hyj', ih (listed.setIfInBounds j true) (Env.put ρ oj.dst u) stj st2 (fun k Ok hk hki hun hno => ?_) (ready_mono hr (Ne.symm hji)) hyi' ?_⟩
      · refine hfree k Ok hk hki ?_ hno
        by_cases hjk : j = k
        · subst hjk; exact hjun
        · rw [getD_set_ne true hjk] at hun; exact hun
      · rw [Array.setIfInBounds_comm _ _ hji]
        refine anyM_eqv fuel _ _ _ _ (put_comm (fun x hx => ?_) v u) hrest
        rw [dj]
        exact a2 x (by rw [← di]; exact hx)
theorem anyM_lex (hok : tmpsOk ops ops.toList L = true) : ∀ (l : List Oper) (pl : List POp) (k : Nat) (listed : Array Bool) (ρ : Env) (st : St), l.length = pl.length → (∀ j, l[j]? = ops[k + j]?) → (∀ j, pl[j]? = L[k + j]?) →
    Region.lexFrom .any ops l.length k listed = true → LexM P m A B k pl ρ st ρ' st' → anyM P m A B ops L ρ' st' l.length listed ρ st
  | [], [], _, _, _, _, _, _, _, hB, h => ⟨by simpa [Region.lexFrom] using hB, fun t => by rw [show ρ' = _ from h.1], h.2.symm⟩
  | [], _ :: _, _, _, _, _, hl, _, _, _, _ => by cases hl
  | _ :: _, [], _, _, _, _, hl, _, _, _, _ => by cases hl
  | O :: l, o :: pl, k, listed, ρ, st, hlen, hl, hp, hB, h => by
    have h0 : ops[k]? = some O := by simpa using (hl 0).symm
    have h1 : L[k]? = some o := by simpa using (hp 0).symm
    simp only [List.length_cons, Region.lexFrom, Bool.and_eq_true] at hB
    obtain ⟨⟨hr, hf⟩, hB'⟩ := hB
    obtain ⟨p, st1, hy, hrest⟩ := h
    exact anyM_first hok h1 h0 l.length listed ρ st st1 (Region.free_spec h0 hf) (by simpa using hr) hy
      (anyM_lex hok l pl (k + 1) _ _ _ (by simpa using hlen) (fun j => by have := hl (j + 1); simpa [Nat.add_assoc, Nat.add_comm 1 j] using this) (fun j => by have := hp (j + 1); simpa [Nat.add_assoc, Nat.add_comm 1 j] using this) hB' hrest)
end
section
variable {P : Program} {X : Cx} {n : Nat}
theorem wpOp_stepM {m : Nat} {A B : St} {st st1 : St} {G : Gh} {ops : Array Oper} {w : World} {ρ : Env} {a : Act} (hI : Inv X st G w) (hE : EnvRep G (OwnF X st G) w n ρ a) {i : Nat} {O : Oper} {o : POp} (hO : ops[i]? = some O) (hc : cPOp P ops n O = some o) {p : PV} (hy : StepM P m A B i o ρ st p st1) {K : Act → World → Prop} {Q : Exit → Act → World → Prop}
    (hK : After X n st1 (Env.put ρ o.dst p) K) : wpOp P ops Q i K a w := by
  rcases hy with ⟨_, rfl, hab, hy, hz⟩ | ⟨_, rfl, rfl, hg, hh⟩
  · exact wpOp_ysem hI hE hO hc (by rcases hab with rfl | rfl; exact hy; exact hz) fun w' a' h1 h2 => hK G w' a' h1 h2
  · obtain ⟨h1, h2, h3, h4⟩ := cPOp_spec hc
    unfold wpOp
    simp only [hO]
    rw [gd_wanted hE h1 hg]
    simp only [if_true]
    refine .inl ?_
    rcases hh with hq | ⟨f, xs, g, caps, q, τ, st2, e1, e2, e3, e4, e5, rfl⟩
    · exact wp_lok hE h3.symm (by rw [h3]; exact h4) ((step_sound hI hE h2).2 p st1 hq) hK
    · rw [e1] at h2
      exact wp_raw hI hE h3.symm (by rw [h3]; exact h4) h2 e2 e3 e4 e5 hK
theorem wpAny_of_anyM {m : Nat} {A B : St} {ops : Array Oper} {L : List POp} {ρ' : Env} {st' : St} (hc : cOps P ops n ops.toList = some L) {Q : Exit → Act → World → Prop} (hQ : ∀ G a w ρ, Inv X st' G w → EnvRep G (OwnF X st' G) w n ρ a → EqA ρ ρ' → Q .normal a w) :
    ∀ (fuel : Nat) (listed : Array Bool) (ρ : Env) (st : St) (G : Gh) (a : Act) (w : World), Inv X st G w → EnvRep G (OwnF X st G) w n ρ a → anyM P m A B ops L ρ' st' fuel listed ρ st → wpAny P .any ops Q fuel listed a w
  | 0, _, ρ, st, G, a, w, hI, hE, h => by
    obtain ⟨h1, h2, rfl⟩ := h
    exact ⟨h1, hQ G a w ρ hI hE h2⟩
  | fuel + 1, listed, ρ, st, G, a, w, hI, hE, h => ⟨fun h0 => by
      obtain ⟨h2, rfl⟩ := h.1 h0
      exact hQ G a w ρ hI hE h2, fun i hi => by
      obtain ⟨o, p, st1, h1, h2, h3⟩ := h.2 i hi
      obtain ⟨_, O, hO, _⟩ := mem_ready.1 hi
      exact wpOp_stepM hI hE hO ((cOps_get hc).2 i O o (by simpa using hO) h1) h2 (fun G' w' a' hI' hE' => wpAny_of_anyM hc hQ fuel _ _ _ G' a' w' hI' hE' h3)⟩
theorem wp_drawnL {m : Nat} {A B : St} {st st' : St} {G : Gh} {id : Nat} {ops : Array Oper} {L : List POp} {w : World} {ρ ρ' : Env} {a : Act} {Q : Exit → Act → World → Prop} (hm : P.follows .mixedOrders = true) (hB : Region.lexB .any ops = true) (hok : tmpsOk ops ops.toList L = true) (hc : cOps P ops n ops.toList = some L)
    (hI : Inv X st G w) (hE : EnvRep G (OwnF X st G) w n ρ a) (hl : LexM P m A B 0 L ρ st ρ' st') (hQ : ∀ G a w, Inv X st' G w → EnvRep G (OwnF X st' G) w n ρ' a → Q .normal a w) : (Code.region id ops true).wp P Q a w := by
  simp only [Region.lexB, Bool.and_eq_true] at hB
  have hd : Below w.heap.size w { w with drawn := w.drawn + 1 } := ⟨rfl, rfl, rfl, Nat.le_refl _, fun _ _ => rfl⟩
  obtain ⟨m1, m2⟩ := inv_below hI hd
  refine wp_region_any hm ?_
  have := anyM_lex (P := P) (m := m) (A := A) (B := B) (ρ' := ρ') (st' := st') hok ops.toList L 0 (Array.replicate ops.size false) ρ st (by simpa using (tmpsOk_spec hok).1) (by simp) (by simp) (by simpa using hB.2) hl
  refine wpAny_of_anyM (m := m) (A := A) (B := B) hc (fun G a w ρ1 h1 h2 h3 => hQ G a w h1 (eqA_env h2 h3)) _ _ ρ st G a _ m1 (m2.env hE) ?_
  simpa using this
end
def StepM2 (P : Program) (m1 m2 d : Nat) (A B C : St) (k : Nat) (o : POp) (ρ : Env) (st : St) (p : PV) (st1 : St) : Prop :=
  (k ≠ m1 ∧ k ≠ m2 ∧ st1 = st ∧ (st = A ∨ st = B ∨ st = C) ∧ ∀ s, s = A ∨ s = B ∨ s = C → YSem P s o ρ p) ∨ (k = m1 ∧ st = A ∧ st1 = B ∧ o.dst = some d ∧ LSem P A o ρ p B) ∨ (k = m2 ∧ st = B ∧ st1 = C ∧ d ∈ o.tmps ∧ LSem P B o ρ p C)
def LexM2 (P : Program) (m1 m2 d : Nat) (A B C : St) : Nat → List POp → Env → St → Env → St → Prop
  | k, [], ρ, st, ρ', st' => ρ' = ρ ∧ st' = st
  | k, o :: l, ρ, st, ρ', st' => ∃ p st1, StepM2 P m1 m2 d A B C k o ρ st p st1 ∧ LexM2 P m1 m2 d A B C (k + 1) l (Env.put ρ o.dst p) st1 ρ' st'
theorem lsem_congr {P : Program} {A B : St} {ρ ρ' : Env} {o : POp} {p : PV} (h : ∀ t ∈ o.tmps, getA t ρ = getA t ρ') (hy : LSem P A o ρ p B) : LSem P A o ρ' p B := by
  have hg : gd (getA · ρ) o.guard = gd (getA · ρ') o.guard := gd_congr fun t w e => h t (by simp [POp.tmps, e])
  have ho : ∀ t ∈ o.op.tmps, getA t ρ = getA t ρ' := fun t ht => h t (by simp [POp.tmps, ht])
  obtain ⟨h1, h2⟩ := hy
  refine ⟨by rw [← hg]; exact h1, ?_⟩
  rcases h2 with h2 | ⟨f, xs, g, caps, q, τ, st2, e1, e2, e3, e4, e5, e6⟩
  · exact .inl (by rw [← loud_congr ho]; exact h2)
  · rw [e1] at ho
    simp only [PI.tmps, List.mem_append] at ho
    have h3 : xs.map (Opd.ev ρ') = xs.map (Opd.ev ρ) := (evs_congr fun t ht => (ho t (.inr ht))).symm
    exact .inr ⟨f, xs, g, caps, q, τ, st2, e1, by rw [← ev_congr (fun t ht => ho t (.inl ht))]; exact e2, e3, e4, by rw [h3]; exact e5, e6⟩
theorem stepM2_congr {P : Program} {m1 m2 d k : Nat} {A B C : St} {ρ ρ' : Env} {st : St} {o : POp} {p : PV} {st1 : St} (h : ∀ t ∈ o.tmps, getA t ρ = getA t ρ') (hy : StepM2 P m1 m2 d A B C k o ρ st p st1) : StepM2 P m1 m2 d A B C k o ρ' st p st1 := by
  rcases hy with ⟨h1, h2, h3, h4, h5⟩ | ⟨h1, h2, h3, h4, h5⟩ | ⟨h1, h2, h3, h4, h5⟩
  · exact .inl ⟨h1, h2, h3, h4, fun s hs => ysem_congr h (h5 s hs)⟩
  · exact .inr (.inl ⟨h1, h2, h3, h4, lsem_congr h h5⟩)
  · exact .inr (.inr ⟨h1, h2, h3, h4, lsem_congr h h5⟩)
theorem stepM2_swap {P : Program} {m1 m2 d i j : Nat} {A B C : St} (hij : i ≠ j) (n1 : ¬ (i = m1 ∧ j = m2)) (n2 : ¬ (i = m2 ∧ j = m1)) {oi oj : POp} {ρ ρ1 : Env} {st sti stij : St} {v u : PV} (hi : StepM2 P m1 m2 d A B C i oi ρ st v sti) (hj : StepM2 P m1 m2 d A B C j oj ρ1 sti u stij) :
    ∃ stj, StepM2 P m1 m2 d A B C j oj ρ1 st u stj ∧ StepM2 P m1 m2 d A B C i oi ρ stj v stij := by
  rcases hi with ⟨a1, a2, rfl, a3, a4⟩ | ⟨a1, rfl, rfl, a2, a3⟩ | ⟨a1, rfl, rfl, a2, a3⟩
  · rcases hj with ⟨b1, b2, rfl, b3, b4⟩ | ⟨b1, rfl, rfl, b2, b3⟩ | ⟨b1, rfl, rfl, b2, b3⟩
    · exact ⟨_, .inl ⟨b1, b2, rfl, b3, b4⟩, .inl ⟨a1, a2, rfl, a3, a4⟩⟩
    · exact ⟨_, .inr (.inl ⟨b1, rfl, rfl, b2, b3⟩), .inl ⟨a1, a2, rfl, .inr (.inl rfl), a4⟩⟩
    · exact ⟨_, .inr (.inr ⟨b1, rfl, rfl, b2, b3⟩), .inl ⟨a1, a2, rfl, .inr (.inr rfl), a4⟩⟩
  · rcases hj with ⟨b1, b2, rfl, b3, b4⟩ | ⟨b1, _, _, b2, b3⟩ | ⟨b1, _, _, b2, b3⟩
    · exact ⟨_, .inl ⟨b1, b2, rfl, .inl rfl, b4⟩, .inr (.inl ⟨a1, rfl, rfl, a2, a3⟩)⟩
    · exact absurd (a1.trans b1.symm) hij
    · exact absurd ⟨a1, b1⟩ n1
  · rcases hj with ⟨b1, b2, rfl, b3, b4⟩ | ⟨b1, _, _, b2, b3⟩ | ⟨b1, _, _, b2, b3⟩
    · exact ⟨_, .inl ⟨b1, b2, rfl, .inr (.inl rfl), b4⟩, .inr (.inr ⟨a1, rfl, rfl, a2, a3⟩)⟩
    · exact absurd ⟨a1, b1⟩ n2
    · exact absurd (a1.trans b1.symm) hij
def anyM2 (P : Program) (m1 m2 d : Nat) (A B C : St) (ops : Array Oper) (L : List POp) (ρ' : Env) (st' : St) : Nat → Array Bool → Env → St → Prop
  | 0, listed, ρ, st => Region.ready .any ops listed = [] ∧ EqA ρ ρ' ∧ st = st'
  | fuel + 1, listed, ρ, st => (Region.ready .any ops listed = [] → EqA ρ ρ' ∧ st = st') ∧ ∀ i ∈ Region.ready .any ops listed, ∃ o p st1, L[i]? = some o ∧ StepM2 P m1 m2 d A B C i o ρ st p st1 ∧ anyM2 P m1 m2 d A B C ops L ρ' st' fuel (listed.setIfInBounds i true) (Env.put ρ o.dst p) st1
section
variable {P : Program} {m1 m2 d : Nat} {A B C : St} {ops : Array Oper} {L : List POp} {ρ' : Env} {st' : St}
theorem anyM2_eqv : ∀ (fuel : Nat) (listed : Array Bool) (ρ ρ1 : Env) (st : St), EqA ρ ρ1 → anyM2 P m1 m2 d A B C ops L ρ' st' fuel listed ρ st → anyM2 P m1 m2 d A B C ops L ρ' st' fuel listed ρ1 st
  | 0, listed, ρ, ρ1, st, he, h => ⟨h.1, fun t => (he t).symm.trans (h.2.1 t), h.2.2⟩
  | fuel + 1, listed, ρ, ρ1, st, he, h => ⟨fun hr => ⟨fun t => (he t).symm.trans ((h.1 hr).1 t), (h.1 hr).2⟩, fun i hi => by
      obtain ⟨o, p, st1, h1, h2, h3⟩ := h.2 i hi
      exact ⟨o, p, st1, h1, stepM2_congr (fun t _ => he t) h2, anyM2_eqv fuel _ _ _ _ (he.put _ _) h3⟩⟩
theorem anyM2_first (hok : tmpsOk ops ops.toList L = true) {i : Nat} {oi : POp} {Oi : Oper} {v : PV} (hi : L[i]? = some oi) (hiO : ops[i]? = some Oi) :
    ∀ (fuel : Nat) (listed : Array Bool) (ρ : Env) (st st1 : St),
      (∀ j Oj, ops[j]? = some Oj → j ≠ i → listed.getD j true = false → (∀ e ∈ Oj.after, Region.binds .any e = true → e.on ≠ i) → Oi.apart ops Oj = true) → (i = m2 → listed.getD m1 true = true) →
      i ∈ Region.ready .any ops listed → StepM2 P m1 m2 d A B C i oi ρ st v st1 → anyM2 P m1 m2 d A B C ops L ρ' st' fuel (listed.setIfInBounds i true) (Env.put ρ oi.dst v) st1 → anyM2 P m1 m2 d A B C ops L ρ' st' (fuel + 1) listed ρ st := by
  intro fuel
  induction fuel with
  | zero =>
    intro listed ρ st st1 _ _ hr hy H
    refine ⟨fun h => (by rw [h] at hr; cases hr), fun j hj => ?_⟩
    by_cases hji : j = i
    · subst hji; exact ⟨oi, v, st1, hi, hy, H⟩
    · have := ready_mono hj hji
      rw [H.1] at this
      cases this
  | succ fuel ih =>
    intro listed ρ st st1 hfree hlm hr hy H
    refine ⟨fun h => (by rw [h] at hr; cases hr), fun j hj => ?_⟩
    by_cases hji : j = i
    · subst hji; exact ⟨oi, v, st1, hi, hy, H⟩
    · obtain ⟨oj, u, st2, hLj, hyj, hrest⟩ := H.2 j (ready_mono hj hji)
      obtain ⟨hjun, Oj, hOj, hall⟩ := mem_ready.1 hj
      have hnot : ∀ e ∈ Oj.after, Region.binds .any e = true → e.on ≠ i := fun e he hb heq => by
        have h1 := hall e he hb
        have h0 := (mem_ready.1 hr).1
        rw [heq] at h1
        rcases Nat.lt_or_ge i listed.size with h' | h'
        · simp [h'] at h0 h1; rw [h0] at h1; cases h1
        · simp [Array.getElem?_eq_none h'] at h1
      have hap := hfree j Oj hOj hji hjun hnot
      obtain ⟨a1, a2, a3⟩ := Oper.apart_spec hap
      obtain ⟨_, hk⟩ := tmpsOk_spec hok
      obtain ⟨ti, di⟩ := hk i Oi oi (by simpa using hiO) hi
      obtain ⟨tj, dj⟩ := hk j Oj oj (by simpa using hOj) hLj
      have n2 : ¬ (i = m2 ∧ j = m1) := fun ⟨e1, e2⟩ => by
        have := hlm e1
        rw [← e2, hjun] at this
        cases this
      have n1 : ¬ (i = m1 ∧ j = m2) := fun ⟨e1, e2⟩ => by
        have hdi : oi.dst = some d := by
          rcases hy with ⟨h, _⟩ | ⟨_, _, _, h, _⟩ | ⟨h, _⟩
          · exact absurd e1 h
          · exact h
          · exact absurd (e2.trans h.symm) hji
        have hdj : d ∈ oj.tmps := by
          rcases hyj with ⟨_, h, _⟩ | ⟨h, _⟩ | ⟨_, _, _, h, _⟩
          · exact absurd e2 h
          · exact absurd (h.trans e1.symm) hji
          · exact h
        exact a1 d (by rw [← di]; exact hdi) (tj d hdj)
      obtain ⟨stj, hyj0, hyi0⟩ := stepM2_swap (Ne.symm hji) n1 n2 hy hyj
      have hyj' : StepM2 P m1 m2 d A B C j oj ρ st u stj := stepM2_congr (fun t ht => put_other (fun e => a1 t (by rw [← di]; exact e) (tj t ht))) hyj0
      have hyi' : StepM2 P m1 m2 d A B C i oi (Env.put ρ oj.dst u) stj v st2 := stepM2_congr (fun t ht => (put_other (fun e => a3 t (by rw [← dj]; exact e) (ti t ht))).symm) hyi0
      refine ⟨oj, u, stj, hLj, hyj', ih (listed.setIfInBounds j true) (Env.put ρ oj.dst u) stj st2 (fun k Ok hk hki hun hno => ?_) (fun e => ?_) (ready_mono hr (Ne.symm hji)) hyi' ?_⟩
      · refine hfree k Ok hk hki ?_ hno
        by_cases hjk : j = k
        · subst hjk; exact hjun
        · rw [getD_set_ne true hjk] at hun; exact hun
      · rw [getD_set_ne true (fun e2 => n2 ⟨e, e2⟩)]; exact hlm e
      · rw [Array.setIfInBounds_comm _ _ hji]
        refine anyM2_eqv fuel _ _ _ _ (put_comm (fun x hx => ?_) v u) hrest
        rw [dj]
        exact a2 x (by rw [← di]; exact hx)
theorem anyM2_lex (hm : m1 < m2) (hok : tmpsOk ops ops.toList L = true) : ∀ (l : List Oper) (pl : List POp) (k : Nat) (listed : Array Bool) (ρ : Env) (st : St), l.length = pl.length → (∀ j, l[j]? = ops[k + j]?) → (∀ j, pl[j]? = L[k + j]?) → (∀ t, t < k → listed.getD t true = true) →
    Region.lexFrom .any ops l.length k listed = true → LexM2 P m1 m2 d A B C k pl ρ st ρ' st' → anyM2 P m1 m2 d A B C ops L ρ' st' l.length listed ρ st
  | [], [], _, _, _, _, _, _, _, _, hB, h => ⟨by simpa [Region.lexFrom] using hB, fun t => by rw [show ρ' = _ from h.1], h.2.symm⟩
  | [], _ :: _, _, _, _, _, hl, _, _, _, _, _ => by cases hl
  | _ :: _, [], _, _, _, _, hl, _, _, _, _, _ => by cases hl
  | O :: l, o :: pl, k, listed, ρ, st, hlen, hl, hp, hls, hB, h => by
    have h0 : ops[k]? = some O := by simpa using (hl 0).symm
    have h1 : L[k]? = some o := by simpa using (hp 0).symm
    simp only [List.length_cons, Region.lexFrom, Bool.and_eq_true] at hB
    obtain ⟨⟨hr, hf⟩, hB'⟩ := hB
    obtain ⟨p, st1, hy, hrest⟩ := h
    exact anyM2_first hok h1 h0 l.length listed ρ st st1 (Region.free_spec h0 hf) (fun e => hls m1 (by omega)) (by simpa using hr) hy
      (anyM2_lex hm hok l pl (k + 1) _ _ _ (by simpa using hlen) (fun j => by have := hl (j + 1); simpa [Nat.add_assoc, Nat.add_comm 1 j] using this) (fun j => by have := hp (j + 1); simpa [Nat.add_assoc, Nat.add_comm 1 j] using this) (fun t ht => by
        by_cases htk : k = t
        · subst htk
          simp only [Array.getD_eq_getD_getElem?, Array.getElem?_setIfInBounds]
          by_cases hs : k < listed.size
          · simp [hs]
          · simp [hs]
        · rw [getD_set_ne true htk]; exact hls t (by omega)) hB' hrest)
end
section
variable {P : Program} {X : Cx} {n : Nat}
theorem wpOp_lsem {st st1 : St} {G : Gh} {ops : Array Oper} {w : World} {ρ : Env} {a : Act} (hI : Inv X st G w) (hE : EnvRep G (OwnF X st G) w n ρ a) {i : Nat} {O : Oper} {o : POp} (hO : ops[i]? = some O) (hc : cPOp P ops n O = some o) {p : PV} (hy : LSem P st o ρ p st1) {K : Act → World → Prop} {Q : Exit → Act → World → Prop}
    (hK : After X n st1 (Env.put ρ o.dst p) K) : wpOp P ops Q i K a w := by
  obtain ⟨hg, hh⟩ := hy
  obtain ⟨h1, h2, h3, h4⟩ := cPOp_spec hc
  unfold wpOp
  simp only [hO]
  rw [gd_wanted hE h1 hg]
  simp only [if_true]
  refine .inl ?_
  rcases hh with hq | ⟨f, xs, g, caps, q, τ, st2, e1, e2, e3, e4, e5, rfl⟩
  · exact wp_lok hE h3.symm (by rw [h3]; exact h4) ((step_sound hI hE h2).2 p st1 hq) hK
  · rw [e1] at h2
    exact wp_raw hI hE h3.symm (by rw [h3]; exact h4) h2 e2 e3 e4 e5 hK
theorem wpOp_stepM2 {m1 m2 d : Nat} {A B C : St} {st st1 : St} {G : Gh} {ops : Array Oper} {w : World} {ρ : Env} {a : Act} (hI : Inv X st G w) (hE : EnvRep G (OwnF X st G) w n ρ a) {i : Nat} {O : Oper} {o : POp} (hO : ops[i]? = some O) (hc : cPOp P ops n O = some o) {p : PV} (hy : StepM2 P m1 m2 d A B C i o ρ st p st1) {K : Act → World → Prop} {Q : Exit → Act → World → Prop}
    (hK : After X n st1 (Env.put ρ o.dst p) K) : wpOp P ops Q i K a w := by
  rcases hy with ⟨_, _, rfl, hab, hy⟩ | ⟨_, rfl, rfl, _, hy⟩ | ⟨_, rfl, rfl, _, hy⟩
  · exact wpOp_ysem hI hE hO hc (hy _ hab) fun w' a' h1 h2 => hK G w' a' h1 h2
  · exact wpOp_lsem hI hE hO hc hy hK
  · exact wpOp_lsem hI hE hO hc hy hK
theorem wpAny_of_anyM2 {m1 m2 d : Nat} {A B C : St} {ops : Array Oper} {L : List POp} {ρ' : Env} {st' : St} (hc : cOps P ops n ops.toList = some L) {Q : Exit → Act → World → Prop} (hQ : ∀ G a w ρ, Inv X st' G w → EnvRep G (OwnF X st' G) w n ρ a → EqA ρ ρ' → Q .normal a w) :
    ∀ (fuel : Nat) (listed : Array Bool) (ρ : Env) (st : St) (G : Gh) (a : Act) (w : World), Inv X st G w → EnvRep G (OwnF X st G) w n ρ a → anyM2 P m1 m2 d A B C ops L ρ' st' fuel listed ρ st → wpAny P .any ops Q fuel listed a w
  | 0, _, ρ, st, G, a, w, hI, hE, h => by
    obtain ⟨h1, h2, rfl⟩ := h
    exact ⟨h1, hQ G a w ρ hI hE h2⟩
  | fuel + 1, listed, ρ, st, G, a, w, hI, hE, h => ⟨fun h0 => by
      obtain ⟨h2, rfl⟩ := h.1 h0
      exact hQ G a w ρ hI hE h2, fun i hi => by
      obtain ⟨o, p, st1, h1, h2, h3⟩ := h.2 i hi
      obtain ⟨_, O, hO, _⟩ := mem_ready.1 hi
      exact wpOp_stepM2 hI hE hO ((cOps_get hc).2 i O o (by simpa using hO) h1) h2 (fun G' w' a' hI' hE' => wpAny_of_anyM2 hc hQ fuel _ _ _ G' a' w' hI' hE' h3)⟩
theorem wp_drawnL2 {m1 m2 d : Nat} (hm12 : m1 < m2) {A B C : St} {st st' : St} {G : Gh} {id : Nat} {ops : Array Oper} {L : List POp} {w : World} {ρ ρ' : Env} {a : Act} {Q : Exit → Act → World → Prop} (hm : P.follows .mixedOrders = true) (hB : Region.lexB .any ops = true) (hok : tmpsOk ops ops.toList L = true) (hc : cOps P ops n ops.toList = some L)
    (hI : Inv X st G w) (hE : EnvRep G (OwnF X st G) w n ρ a) (hl : LexM2 P m1 m2 d A B C 0 L ρ st ρ' st') (hQ : ∀ G a w, Inv X st' G w → EnvRep G (OwnF X st' G) w n ρ' a → Q .normal a w) : (Code.region id ops true).wp P Q a w := by
  simp only [Region.lexB, Bool.and_eq_true] at hB
  have hd : Below w.heap.size w { w with drawn := w.drawn + 1 } := ⟨rfl, rfl, rfl, Nat.le_refl _, fun _ _ => rfl⟩
  obtain ⟨i1, i2⟩ := inv_below hI hd
  refine wp_region_any hm ?_
  have := anyM2_lex (P := P) (m1 := m1) (m2 := m2) (d := d) (A := A) (B := B) (C := C) (ρ' := ρ') (st' := st') hm12 hok ops.toList L 0 (Array.replicate ops.size false) ρ st (by simpa using (tmpsOk_spec hok).1) (by simp) (by simp) (fun t ht => by omega) (by simpa using hB.2) hl
  refine wpAny_of_anyM2 (m1 := m1) (m2 := m2) (d := d) (A := A) (B := B) (C := C) hc (fun G a w ρ1 h1 h2 h3 => hQ G a w h1 (eqA_env h2 h3)) _ _ ρ st G a _ i1 (i2.env hE) ?_
  simpa using this
end
def StepI (P : Program) (m1 m2 : Nat) (S : Bool → Bool → St) (k : Nat) (o : POp) (ρ : Env) (b c : Bool) (p : PV) (b1 c1 : Bool) : Prop :=
  (k ≠ m1 ∧ k ≠ m2 ∧ b1 = b ∧ c1 = c ∧ ∀ x y, YSem P (S x y) o ρ p) ∨ (k = m1 ∧ b = false ∧ b1 = true ∧ c1 = c ∧ ∀ y, LSem P (S false y) o ρ p (S true y)) ∨ (k = m2 ∧ c = false ∧ c1 = true ∧ b1 = b ∧ ∀ x, LSem P (S x false) o ρ p (S x true))
def LexI (P : Program) (m1 m2 : Nat) (S : Bool → Bool → St) : Nat → List POp → Env → Bool → Bool → Env → Bool → Bool → Prop
  | k, [], ρ, b, c, ρ', b', c' => ρ' = ρ ∧ b' = b ∧ c' = c
  | k, o :: l, ρ, b, c, ρ', b', c' => ∃ p b1 c1, StepI P m1 m2 S k o ρ b c p b1 c1 ∧ LexI P m1 m2 S (k + 1) l (Env.put ρ o.dst p) b1 c1 ρ' b' c'
theorem stepI_congr {P : Program} {m1 m2 k : Nat} {S : Bool → Bool → St} {ρ ρ' : Env} {b c b1 c1 : Bool} {o : POp} {p : PV} (h : ∀ t ∈ o.tmps, getA t ρ = getA t ρ') (hy : StepI P m1 m2 S k o ρ b c p b1 c1) : StepI P m1 m2 S k o ρ' b c p b1 c1 := by
  rcases hy with ⟨h1, h2, h3, h4, h5⟩ | ⟨h1, h2, h3, h4, h5⟩ | ⟨h1, h2, h3, h4, h5⟩
  · exact .inl ⟨h1, h2, h3, h4, fun x y => ysem_congr h (h5 x y)⟩
  · exact .inr (.inl ⟨h1, h2, h3, h4, fun y => lsem_congr h (h5 y)⟩)
  · exact .inr (.inr ⟨h1, h2, h3, h4, fun x => lsem_congr h (h5 x)⟩)
theorem stepI_swap {P : Program} {m1 m2 i j : Nat} {S : Bool → Bool → St} (hij : i ≠ j) {oi oj : POp} {ρ ρ1 : Env} {b c bi ci bij cij : Bool} {v u : PV} (hi : StepI P m1 m2 S i oi ρ b c v bi ci) (hj : StepI P m1 m2 S j oj ρ1 bi ci u bij cij) :
    ∃ bj cj, StepI P m1 m2 S j oj ρ1 b c u bj cj ∧ StepI P m1 m2 S i oi ρ bj cj v bij cij := by
  rcases hi with ⟨a1, a2, rfl, rfl, a4⟩ | ⟨a1, rfl, rfl, rfl, a3⟩ | ⟨a1, rfl, rfl, rfl, a3⟩
  · exact ⟨_, _, hj, .inl ⟨a1, a2, rfl, rfl, a4⟩⟩
  · rcases hj with ⟨b1, b2, rfl, rfl, b4⟩ | ⟨b1, _, _, _, _⟩ | ⟨b1, rfl, rfl, rfl, b3⟩
    · exact ⟨_, _, .inl ⟨b1, b2, rfl, rfl, b4⟩, .inr (.inl ⟨a1, rfl, rfl, rfl, a3⟩)⟩
    · exact absurd (a1.trans b1.symm) hij
    · exact ⟨_, _, .inr (.inr ⟨b1, rfl, rfl, rfl, b3⟩), .inr (.inl ⟨a1, rfl, rfl, rfl, a3⟩)⟩
  · rcases hj with ⟨b1, b2, rfl, rfl, b4⟩ | ⟨b1, rfl, rfl, rfl, b3⟩ | ⟨b1, _, _, _, _⟩
    · exact ⟨_, _, .inl ⟨b1, b2, rfl, rfl, b4⟩, .inr (.inr ⟨a1, rfl, rfl, rfl, a3⟩)⟩
    · exact ⟨_, _, .inr (.inl ⟨b1, rfl, rfl, rfl, b3⟩), .inr (.inr ⟨a1, rfl, rfl, rfl, a3⟩)⟩
    · exact absurd (a1.trans b1.symm) hij
def anyI (P : Program) (m1 m2 : Nat) (S : Bool → Bool → St) (ops : Array Oper) (L : List POp) (ρ' : Env) (b' c' : Bool) : Nat → Array Bool → Env → Bool → Bool → Prop
  | 0, listed, ρ, b, c => Region.ready .any ops listed = [] ∧ EqA ρ ρ' ∧ b = b' ∧ c = c'
  | fuel + 1, listed, ρ, b, c => (Region.ready .any ops listed = [] → EqA ρ ρ' ∧ b = b' ∧ c = c') ∧ ∀ i ∈ Region.ready .any ops listed, ∃ o p b1 c1, L[i]? = some o ∧ StepI P m1 m2 S i o ρ b c p b1 c1 ∧ anyI P m1 m2 S ops L ρ' b' c' fuel (listed.setIfInBounds i true) (Env.put ρ o.dst p) b1 c1
section
variable {P : Program} {m1 m2 : Nat} {S : Bool → Bool → St} {ops : Array Oper} {L : List POp} {ρ' : Env} {b' c' : Bool}
theorem anyI_eqv : ∀ (fuel : Nat) (listed : Array Bool) (ρ ρ1 : Env) (b c : Bool), EqA ρ ρ1 → anyI P m1 m2 S ops L ρ' b' c' fuel listed ρ b c → anyI P m1 m2 S ops L ρ' b' c' fuel listed ρ1 b c
  | 0, listed, ρ, ρ1, b, c, he, h => ⟨h.1, fun t => (he t).symm.trans (h.2.1 t), h.2.2⟩
  | fuel + 1, listed, ρ, ρ1, b, c, he, h => ⟨fun hr => ⟨fun t => (he t).symm.trans ((h.1 hr).1 t), (h.1 hr).2⟩, fun i hi => by
      obtain ⟨o, p, b1, c1, h1, h2, h3⟩ := h.2 i hi
      exact ⟨o, p, b1, c1, h1, stepI_congr (fun t _ => he t) h2, anyI_eqv fuel _ _ _ _ _ (he.put _ _) h3⟩⟩
theorem anyI_first (hok : tmpsOk ops ops.toList L = true) {i : Nat} {oi : POp} {Oi : Oper} {v : PV} (hi : L[i]? = some oi) (hiO : ops[i]? = some Oi) :
    ∀ (fuel : Nat) (listed : Array Bool) (ρ : Env) (b c b1 c1 : Bool),
      (∀ j Oj, ops[j]? = some Oj → j ≠ i → listed.getD j true = false → (∀ e ∈ Oj.after, Region.binds .any e = true → e.on ≠ i) → Oi.apart ops Oj = true) →
      i ∈ Region.ready .any ops listed → StepI P m1 m2 S i oi ρ b c v b1 c1 → anyI P m1 m2 S ops L ρ' b' c' fuel (listed.setIfInBounds i true) (Env.put ρ oi.dst v) b1 c1 → anyI P m1 m2 S ops L ρ' b' c' (fuel + 1) listed ρ b c := by
  intro fuel
  induction fuel with
  | zero =>
    intro listed ρ b c b1 c1 _ hr hy H
    refine ⟨fun h => (by rw [h] at hr; cases hr), fun j hj => ?_⟩
    by_cases hji : j = i
    · subst hji; exact ⟨oi, v, b1, c1, hi, hy, H⟩
    · have := ready_mono hj hji
      rw [H.1] at this
      cases this
  | succ fuel ih =>
    intro listed ρ b c b1 c1 hfree hr hy H
    refine ⟨fun h => (by rw [h] at hr; cases hr), fun j hj => ?_⟩
    by_cases hji : j = i
    · subst hji; exact ⟨oi, v, b1, c1, hi, hy, H⟩
    · obtain ⟨oj, u, b2, c2, hLj, hyj, hrest⟩ := H.2 j (ready_mono hj hji)
      obtain ⟨hjun, Oj, hOj, hall⟩ := mem_ready.1 hj
      have hnot : ∀ e ∈ Oj.after, Region.binds .any e = true → e.on ≠ i := fun e he hb heq => by
        have h1 := hall e he hb
        have h0 := (mem_ready.1 hr).1
        rw [heq] at h1
        rcases Nat.lt_or_ge i listed.size with h' | h'
        · simp [h'] at h0 h1; rw [h0] at h1; cases h1
        · simp [Array.getElem?_eq_none h'] at h1
      have hap := hfree j Oj hOj hji hjun hnot
      obtain ⟨a1, a2, a3⟩ := Oper.apart_spec hap
      obtain ⟨_, hk⟩ := tmpsOk_spec hok
      obtain ⟨ti, di⟩ := hk i Oi oi (by simpa using hiO) hi
      obtain ⟨tj, dj⟩ := hk j Oj oj (by simpa using hOj) hLj
      obtain ⟨bj, cj, hyj0, hyi0⟩ := stepI_swap (Ne.symm hji) hy hyj
      have hyj' : StepI P m1 m2 S j oj ρ b c u bj cj := stepI_congr (fun t ht => put_other (fun e => a1 t (by rw [← di]; exact e) (tj t ht))) hyj0
      have hyi' : StepI P m1 m2 S i oi (Env.put ρ oj.dst u) bj cj v b2 c2 := stepI_congr (fun t ht => (put_other (fun e => a3 t (by rw [← dj]; exact e) (ti t ht))).symm) hyi0
      refine ⟨oj, u, bj, cj, hLj, hyj', ih (listed.setIfInBounds j true) (Env.put ρ oj.dst u) bj cj b2 c2 (fun k Ok hk hki hun hno => ?_) (ready_mono hr (Ne.symm hji)) hyi' ?_⟩
      · refine hfree k Ok hk hki ?_ hno
        by_cases hjk : j = k
        · subst hjk; exact hjun
        · rw [getD_set_ne true hjk] at hun; exact hun
      · rw [Array.setIfInBounds_comm _ _ hji]
        refine anyI_eqv fuel _ _ _ _ _ (put_comm (fun x hx => ?_) v u) hrest
        rw [dj]
        exact a2 x (by rw [← di]; exact hx)
theorem anyI_lex (hok : tmpsOk ops ops.toList L = true) : ∀ (l : List Oper) (pl : List POp) (k : Nat) (listed : Array Bool) (ρ : Env) (b c : Bool), l.length = pl.length → (∀ j, l[j]? = ops[k + j]?) → (∀ j, pl[j]? = L[k + j]?) →
    Region.lexFrom .any ops l.length k listed = true → LexI P m1 m2 S k pl ρ b c ρ' b' c' → anyI P m1 m2 S ops L ρ' b' c' l.length listed ρ b c
  | [], [], _, _, _, _, _, _, _, _, hB, h => ⟨by simpa [Region.lexFrom] using hB, fun t => by rw [show ρ' = _ from h.1], h.2.1.symm, h.2.2.symm⟩
  | [], _ :: _, _, _, _, _, _, hl, _, _, _, _ => by cases hl
  | _ :: _, [], _, _, _, _, _, hl, _, _, _, _ => by cases hl
  | O :: l, o :: pl, k, listed, ρ, b, c, hlen, hl, hp, hB, h => by
    have h0 : ops[k]? = some O := by simpa using (hl 0).symm
    have h1 : L[k]? = some o := by simpa using (hp 0).symm
    simp only [List.length_cons, Region.lexFrom, Bool.and_eq_true] at hB
    obtain ⟨⟨hr, hf⟩, hB'⟩ := hB
    obtain ⟨p, b1, c1, hy, hrest⟩ := h
    exact anyI_first hok h1 h0 l.length listed ρ b c b1 c1 (Region.free_spec h0 hf) (by simpa using hr) hy
      (anyI_lex hok l pl (k + 1) _ _ _ _ (by simpa using hlen) (fun j => by have := hl (j + 1); simpa [Nat.add_assoc, Nat.add_comm 1 j] using this) (fun j => by have := hp (j + 1); simpa [Nat.add_assoc, Nat.add_comm 1 j] using this) hB' hrest)
end
section
variable {P : Program} {X : Cx} {n : Nat}
theorem wpOp_stepI {m1 m2 : Nat} {S : Bool → Bool → St} {b c b1 c1 : Bool} {G : Gh} {ops : Array Oper} {w : World} {ρ : Env} {a : Act} (hI : Inv X (S b c) G w) (hE : EnvRep G (OwnF X (S b c) G) w n ρ a) {i : Nat} {O : Oper} {o : POp} (hO : ops[i]? = some O) (hc : cPOp P ops n O = some o) {p : PV} (hy : StepI P m1 m2 S i o ρ b c p b1 c1) {K : Act → World → Prop} {Q : Exit → Act → World → Prop}
    (hK : After X n (S b1 c1) (Env.put ρ o.dst p) K) : wpOp P ops Q i K a w := by
  rcases hy with ⟨_, _, rfl, rfl, hy⟩ | ⟨_, rfl, rfl, rfl, hy⟩ | ⟨_, rfl, rfl, rfl, hy⟩
  · exact wpOp_ysem hI hE hO hc (hy _ _) fun w' a' h1 h2 => hK G w' a' h1 h2
  · exact wpOp_lsem hI hE hO hc (hy _) hK
  · exact wpOp_lsem hI hE hO hc (hy _) hK
theorem wpAny_of_anyI {m1 m2 : Nat} {S : Bool → Bool → St} {b' c' : Bool} {ops : Array Oper} {L : List POp} {ρ' : Env} (hc : cOps P ops n ops.toList = some L) {Q : Exit → Act → World → Prop} (hQ : ∀ G a w ρ, Inv X (S b' c') G w → EnvRep G (OwnF X (S b' c') G) w n ρ a → EqA ρ ρ' → Q .normal a w) :
    ∀ (fuel : Nat) (listed : Array Bool) (ρ : Env) (b c : Bool) (G : Gh) (a : Act) (w : World), Inv X (S b c) G w → EnvRep G (OwnF X (S b c) G) w n ρ a → anyI P m1 m2 S ops L ρ' b' c' fuel listed ρ b c → wpAny P .any ops Q fuel listed a w
  | 0, _, ρ, b, c, G, a, w, hI, hE, h => by
    obtain ⟨h1, h2, rfl, rfl⟩ := h
    exact ⟨h1, hQ G a w ρ hI hE h2⟩
  | fuel + 1, listed, ρ, b, c, G, a, w, hI, hE, h => ⟨fun h0 => by
      obtain ⟨h2, rfl, rfl⟩ := h.1 h0
      exact hQ G a w ρ hI hE h2, fun i hi => by
      obtain ⟨o, p, b1, c1, h1, h2, h3⟩ := h.2 i hi
      obtain ⟨_, O, hO, _⟩ := mem_ready.1 hi
      exact wpOp_stepI hI hE hO ((cOps_get hc).2 i O o (by simpa using hO) h1) h2 (fun G' w' a' hI' hE' => wpAny_of_anyI hc hQ fuel _ _ _ _ G' a' w' hI' hE' h3)⟩
theorem wp_drawnLi {m1 m2 : Nat} {S : Bool → Bool → St} {b c b' c' : Bool} {G : Gh} {id : Nat} {ops : Array Oper} {L : List POp} {w : World} {ρ ρ' : Env} {a : Act} {Q : Exit → Act → World → Prop} (hm : P.follows .mixedOrders = true) (hB : Region.lexB .any ops = true) (hok : tmpsOk ops ops.toList L = true) (hc : cOps P ops n ops.toList = some L)
    (hI : Inv X (S b c) G w) (hE : EnvRep G (OwnF X (S b c) G) w n ρ a) (hl : LexI P m1 m2 S 0 L ρ b c ρ' b' c') (hQ : ∀ G a w, Inv X (S b' c') G w → EnvRep G (OwnF X (S b' c') G) w n ρ' a → Q .normal a w) : (Code.region id ops true).wp P Q a w := by
  simp only [Region.lexB, Bool.and_eq_true] at hB
  have hd : Below w.heap.size w { w with drawn := w.drawn + 1 } := ⟨rfl, rfl, rfl, Nat.le_refl _, fun _ _ => rfl⟩
  obtain ⟨i1, i2⟩ := inv_below hI hd
  refine wp_region_any hm ?_
  have := anyI_lex (P := P) (m1 := m1) (m2 := m2) (S := S) (ρ' := ρ') (b' := b') (c' := c') hok ops.toList L 0 (Array.replicate ops.size false) ρ b c (by simpa using (tmpsOk_spec hok).1) (by simp) (by simp) (by simpa using hB.2) hl
  refine wpAny_of_anyI (m1 := m1) (m2 := m2) (S := S) hc (fun G a w ρ1 h1 h2 h3 => hQ G a w h1 (eqA_env h2 h3)) _ _ ρ b c G a _ i1 (i2.env hE) ?_
  simpa using this
end
end Go.AM
set_option linter.unusedVariables false
set_option linter.unusedSimpArgs false
namespace Go.AM
open Go.RowKit
variable [Gl]
section
variable {P : Program} {X : Cx} {st : St} {G : Gh} {w : World} {n : Nat} {ρ : Env} {a : Act}
def ghBel (G : Gh) (m : Nat) : Gh := fun t g => if t < m then G t g else none
theorem rep_bel {own own' : Nat → Prop} {m : Nat} (ho : ∀ b, own' b → own b) {v : Value} {p : PV} (h : Rep G own w v p) : Bel m p → Rep (ghBel G m) own' w v p := by
  have g : ∀ {t g' : Nat} {L : Loc}, t < m → G t g' = some L → ghBel G m t g' = some L := fun h1 h2 => by simp [ghBel, h1, h2]
  have mem : ∀ {α : Type} {l : List α} {i : Nat} {x : α}, l[i]? = some x → x ∈ l := fun h => List.mem_of_getElem? h
  induction h with
  | junk v => intro _; exact .junk v
  | bool b => intro _; exact .bool b
  | int k n => intro _; exact .int k n
  | str s => intro _; exact .str s
  | nilPtr => intro _; exact .nilPtr
  | ptr t off L h => intro hb; cases hb with | ptr _ _ h' => exact .ptr t off L (g h' h)
  | rptr t g' i off L h => intro hb; cases hb with | rptr _ _ _ _ h' => exact .rptr t g' i off L (g h' h)
  | iptr cells off b o u hc hr ih => intro hb; cases hb with | iptr _ _ h' => exact .iptr cells off b o u (fun i c hi => ⟨(hc i c hi).1, fun x => (hc i c hi).2 (ho b x)⟩) (fun i c hi => ih i c hi (h' c (mem hi)))
  | nilSl => intro _; exact .nilSl
  | sl xs full b o cap sz adr u hcap hfull hadr hsz hc hr ih =>
    intro hb
    cases hb with
    | sl _ _ h' => exact .sl xs full b o cap sz adr u hcap hfull hadr hsz (fun j cs i c hj hi => ⟨(hc j cs i c hj hi).1, fun x => (hc j cs i c hj hi).2 (ho b x)⟩) (fun j cs i c hj hi => ih j cs i c hj hi (h' cs (mem hj) c (mem hi)))
  | osl t g' off len full L cap a h hcap hL hfull ha hs => intro hb; cases hb with | osl _ _ _ _ _ h' => exact .osl t g' off len full L cap a (g h' h) hcap hL hfull ha hs
  | vsl t off sz len L cap a h hcap ha hs => intro hb; cases hb with | vsl _ _ _ _ h' => exact .vsl t off sz len L cap a (g h' h) hcap ha hs
  | func f caps vs hs h ih => intro hb; cases hb with | func _ _ h' => exact .func f caps vs hs (fun i c hi => ih i c hi (h' c (mem hi)))
  | nilFunc => intro _; exact .nilFunc
  | iface ty v p h ih => intro hb; cases hb with | iface _ _ h' => exact .iface ty v p (ih h')
  | nilIface => intro _; exact .nilIface
  | agg cs vs hs h ih => intro hb; cases hb with | agg _ h' => exact .agg cs vs hs (fun i c hi => ih i c hi (h' c (mem hi)))
  | tuple cs vs hs h ih => intro hb; cases hb with | tuple _ h' => exact .tuple cs vs hs (fun i c hi => ih i c hi (h' c (mem hi)))
theorem weak_inv (hI : Inv X st G w) (hE : EnvRep G (OwnF X st G) w n ρ a) {ρ' : Env} {st' : St} (hw : Weak ρ st ρ' st') : ∃ G', Inv X st' G' w ∧ EnvRep G' (OwnF X st' G') w n ρ' a := by
  have gb : ∀ {t g : Nat} {L : Loc}, ghBel G st'.next t g = some L → t < st'.next ∧ G t g = some L := by
    intro t g L h
    unfold ghBel at h
    split at h
    · rename_i hlt; exact ⟨hlt, h⟩
    · cases h
  have bg : ∀ {t g : Nat} {L : Loc}, t < st'.next → G t g = some L → ghBel G st'.next t g = some L := fun h1 h2 => by simp [ghBel, h1, h2]
  have hlive : ∀ {t : Nat} {k : Tok}, st'.get t = some k → k.live = true → st.get t = some k := by
    intro t k h hl
    rcases (hw.toks t k h).2.2 with h1 | ⟨g, sz, es, rfl, _⟩
    · exact h1
    · cases hl
  have hown : ∀ b, Own st' (ghBel G st'.next) b → Own st G b := by
    rintro b ⟨t, k, L, h1, h2, h3, h4⟩
    exact ⟨t, k, L, hlive h1 h2, h2, (gb h3).2, h4⟩
  have hownF : ∀ b, OwnF X st' (ghBel G st'.next) b → OwnF X st G b := fun b h => h.imp id (hown b)
  have hbn := hw.next
  have hbb := hw.base
  refine ⟨ghBel G st'.next, ⟨fun t g L h => ⟨(gb h).1, (hI.low t g L (gb h).2).2⟩, hbn.1, fun t g L h => ?_, fun t k h => ?_, fun t k g L h hg => ?_, ?_, fun t g L h => ?_, fun t k h => ?_, hI.frame, fun b h => hI.ownb b (hown b h), hI.foreign, hI.glob⟩, hE.defers, hE.size, fun t p hp => ?_⟩
  · have := hI.old t g L h
    exact ⟨by omega, bg (by omega) this.2⟩
  · obtain ⟨hlt, hbel, hk⟩ := hw.toks t k h
    rcases hk with hk | ⟨g, sz, es, rfl, hk⟩
    · have htr := hI.toks t k hk
      cases k with
      | var cs =>
        obtain ⟨L, h1, h2, h3⟩ := htr
        exact ⟨L, bg hlt h1, h2, fun i p hi => by
          obtain ⟨v, e1, e2⟩ := h3 i p hi
          exact ⟨v, e1, rep_bel hownF e2 (hbel p (List.mem_of_getElem? hi))⟩⟩
      | row g sz es lv =>
        obtain ⟨L, h1, h2, h3, h4, h5, h6⟩ := htr
        exact ⟨L, bg hlt h1, h2, h3, h4, fun j cs hj => ⟨(h5 j cs hj).1, fun i p hi => by
          obtain ⟨v, e1, e2⟩ := (h5 j cs hj).2 i p hi
          exact ⟨v, e1, rep_bel hownF e2 (hbel cs (List.mem_of_getElem? hj) p (List.mem_of_getElem? hi))⟩⟩, fun hl ho => h6 hl (hownF _ ho)⟩
    · obtain ⟨L, h1, h2, h3, h4, h5, h6⟩ := hI.toks t _ hk
      refine ⟨L, bg hlt h1, h2, h3, h4, fun j cs hj => ⟨(h5 j cs hj).1, fun i p hi => by
          obtain ⟨v, e1, e2⟩ := (h5 j cs hj).2 i p hi
          exact ⟨v, e1, rep_bel hownF e2 (hbel cs (List.mem_of_getElem? hj) p (List.mem_of_getElem? hi))⟩⟩, fun _ ho => ?_⟩
      rcases ho with ho | ⟨t', k', L', e1, e2, e3, e4⟩
      · exact hI.f_own ho ⟨t, _, L, hk, rfl, h1, rfl⟩
      · have := hI.inj t' t k' _ L' L (hlive e1 e2) hk e2 rfl (gb e3).2 h1 e4
        subst this
        rw [h] at e1
        injection e1 with e1
        subst e1
        cases e2
  · obtain ⟨hlt, hbel, hk⟩ := hw.toks t k h
    rcases hk with hk | ⟨g', sz, es, rfl, hk⟩
    · exact hI.gens t k g L hk (gb hg).2
    · exact (hI.gens t _ g L hk (gb hg).2 : g ≤ g')
  · intro t t' k k' L L' h1 h2 l1 l2 g1 g2 he
    exact hI.inj t t' k k' L L' (hlive h1 l1) (hlive h2 l2) l1 l2 (gb g1).2 (gb g2).2 he
  · rw [hbb]
    exact hI.newg t g L (gb h).2
  · rw [hbb]
    rcases (hw.toks t k h).2.2 with h1 | ⟨g, sz, es, _, h1⟩
    · exact hI.dom t k h1
    · exact hI.dom t _ h1
  · rcases hw.env t p hp with rfl | ⟨h1, h2⟩
    · exact .junk _
    · exact rep_bel hownF (hE.reps t p h1) h2
def resV (tmps : Array Value) : ResultVar → Sem Value
  | .tmp t => pure (tmps.getD t undef)
  | .cell x t => do loadVar t (← asAddr (tmps.getD x undef))
theorem results_eq (fn : Func) (tmps : Array Value) : results fn tmps = (do
    let vs ← fn.results.mapM (resV tmps)
    pure (if h : vs.size = 1 then vs[0] else .tuple vs)) := by
  unfold results
  congr
theorem res_run (hI : Inv X st G w) (hE : EnvRep G (OwnF X st G) w n ρ a) : ∀ {rs : List ResultVar} {ps : List PRes} {vs : List PV}, cRess P rs = some ps → mapO (res1 ρ st.get) ps = some vs →
    ∃ us : List Value, (rs.mapM (resV a.tmps)).run P w = .ok us w ∧ us.length = vs.length ∧ ∀ (i : Nat) (u : Value) (c : PV), us[i]? = some u → vs[i]? = some c → Rep G (OwnF X st G) w u c
  | [], ps, vs, h, hm => by
    injection h with h
    subst h
    injection hm with hm
    subst hm
    exact ⟨[], rfl, rfl, fun i u c h => by simp at h⟩
  | r :: rs, ps, vs, h, hm => by
    simp only [cRess] at h
    split at h
    · rename_i p ps' h1 h2
      injection h with h
      subst h
      simp only [mapO] at hm
      split at hm
      · rename_i y ys hy hys
        injection hm with hm
        subst hm
        obtain ⟨us, k1, k2, k3⟩ := res_run hI hE h2 hys
        have one : ∃ u, (resV a.tmps r).run P w = .ok u w ∧ Rep G (OwnF X st G) w u y := by
          cases r with
          | tmp t =>
            injection h1 with h1
            subst h1
            injection hy with hy
            subst hy
            exact ⟨_, rfl, hE.at t⟩
          | cell x t =>
            simp only [cRes] at h1
            split at h1
            · rename_i d i hT
              split at h1
              · rename_i hag
                injection h1 with h1
                subst h1
                simp only [res1, loadAt] at hy
                obtain ⟨⟨cs, off⟩, hb, hs⟩ := Option.bind_eq_some_iff.1 hy
                obtain ⟨b, ob, hv, hcells⟩ := behind_rep hI (hE.at x) hb
                obtain ⟨u, hu, hru⟩ := run_loadVar_cells (P := P) hT hag hcells hs
                refine ⟨u, ?_, hru⟩
                simp only [resV, hv, asAddr, Sem.run_bind, Sem.run_pure, Result.andThen_ok, hu]
              · cases h1
            · cases h1
        obtain ⟨u, e1, e2⟩ := one
        refine ⟨u :: us, ?_, by simp [k2], fun i v c hv hc => ?_⟩
        · rw [List.mapM_cons, Sem.run_bind, e1, Result.andThen_ok, Sem.run_bind, k1]
          rfl
        · cases i with
          | zero => simp at hv hc; subst hv hc; exact e2
          | succ i => exact k3 i v c (by simpa using hv) (by simpa using hc)
      · cases hm
    · cases h
theorem results_run (hI : Inv X st G w) (hE : EnvRep G (OwnF X st G) w n ρ a) {fn : Func} {ps : List PRes} (hc : cRess P fn.results.toList = some ps) {r : PV} (hr : resOf ρ st.get ps = some r) : ∃ u, (results fn a.tmps).run P w = .ok u w ∧ Rep G (OwnF X st G) w u r := by
  unfold resOf at hr
  have main : ∀ vs, mapO (res1 ρ st.get) ps = some vs → ∃ us : Array Value, (results fn a.tmps).run P w = .ok (if h : us.size = 1 then us[0] else .tuple us) w ∧ us.size = vs.length ∧ ∀ (i : Nat) (u : Value) (c : PV), us[i]? = some u → vs[i]? = some c → Rep G (OwnF X st G) w u c := by
    intro vs hvs
    obtain ⟨us, k1, k2, k3⟩ := res_run (P := P) hI hE hc hvs
    refine ⟨us.toArray, ?_, by simpa using k2, fun i u c h h' => k3 i u c (by simpa using h) h'⟩
    rw [results_eq, Sem.run_bind, Array.mapM_eq_mapM_toList, Sem.run_map, k1]
    rfl
  split at hr
  · rename_i v hv
    injection hr with hr
    subst hr
    obtain ⟨us, k1, k2, k3⟩ := main _ hv
    have h1 : us.size = 1 := by simpa using k2
    rw [dif_pos h1] at k1
    exact ⟨_, k1, k3 0 _ v (by simp) rfl⟩
  · rename_i vs hne hv
    injection hr with hr
    subst hr
    obtain ⟨us, k1, k2, k3⟩ := main _ hv
    have h1 : us.size ≠ 1 := by
      intro h
      rw [k2] at h
      match vs, h with
      | [v], _ => exact hne v rfl
    rw [dif_neg h1] at k1
    refine ⟨_, k1, .tuple vs us k2 fun i c hi => ?_⟩
    have hlt : i < us.size := by rw [k2]; exact (List.getElem?_eq_some_iff.1 hi).1
    have := k3 i us[i] c (Array.getElem?_eq_getElem hlt) hi
    rw [Array.getD_eq_getD_getElem?, Array.getElem?_eq_getElem hlt]
    exact this
  · cases hr
theorem getA_envFrom (t : Nat) : ∀ (k : Nat) (args : List PV), getA t (envFrom k args) = if k ≤ t then args[t - k]? else none
  | k, [] => by simp [envFrom, getA]
  | k, p :: r => by
    simp only [envFrom, getA]
    by_cases h : k = t
    · subst h; simp
    · rw [if_neg h, getA_envFrom t (k + 1) r]
      by_cases h1 : k ≤ t
      · rw [if_pos h1, if_pos (by omega), show t - k = (t - (k + 1)) + 1 by omega]
        simp
      · rw [if_neg h1, if_neg (by omega)]
theorem env_begin {own : Nat → Prop} {vals : Array Value} {args : List PV} (hs : vals.size = args.length) (hr : ∀ (i : Nat) (c : PV), args[i]? = some c → Rep G own w (vals.getD i undef) c) {m : Nat} (hm : args.length ≤ m) :
    EnvRep G own w m (envFrom 0 args) { tmps := vals ++ Array.replicate (m - vals.size) undef, defers := [] } := by
  refine ⟨rfl, by simp; omega, fun t p hp => ?_⟩
  rw [getA_envFrom, if_pos (Nat.zero_le _), Nat.sub_zero] at hp
  have hlt : t < vals.size := by rw [hs]; exact (List.getElem?_eq_some_iff.1 hp).1
  have := hr t p hp
  rw [Array.getD_eq_getD_getElem?] at this ⊢
  rwa [Array.getElem?_append_left hlt]
end
def SemJ (P : Program) : J → Prop
  | .code c ρ st x ρ' st' => SemCode P c ρ st x ρ' st'
  | .ops l ρ st ρ' st' => SemOps P l ρ st ρ' st'
  | .drawn l ρ st ρ' => LexD P st l ρ ρ'
  | .call f args r => SemCall P f args r
  | .raw f args st r st' => SemRaw P f args st r st'
  | .dl m A B k l ρ st ρ' st' => LexM P m A B k l ρ st ρ' st'
  | .dl2 m1 m2 d A B C k l ρ st ρ' st' => LexM2 P m1 m2 d A B C k l ρ st ρ' st'
  | .dli m1 m2 S k l ρ b c ρ' b' c' => LexI P m1 m2 S k l ρ b c ρ' b' c'
theorem dropA_env {G : Gh} {own : Nat → Prop} {w : World} {n : Nat} {ρ : Env} {a : Act} (kill : List Nat) (h : EnvRep G own w n ρ a) : EnvRep G own w n (dropA kill ρ) a :=
  ⟨h.defers, h.size, fun t p hp => h.reps t p (by rw [getA_dropA] at hp; split at hp; (· cases hp); exact hp)⟩
theorem cOps_cons {P : Program} {ops : Array Oper} {n : Nat} {lo : List Oper} {o : POp} {l : List POp} (h : cOps P ops n lo = some (o :: l)) : ∃ O lo', lo = O :: lo' ∧ cPOp P ops n O = some o ∧ cOps P ops n lo' = some l := by
  cases lo with
  | nil => injection h with h; cases h
  | cons O lo' =>
    simp only [cOps] at h
    split at h
    · rename_i p ps h1 h2
      injection h with h
      injection h with h3 h4
      subst h3 h4
      exact ⟨O, lo', rfl, h1, h2⟩
    · cases h
def CodeInv (P : Program) (n : Nat) (kill : Nat → List Nat) (gc : Code) : PC → Prop
  | .skip => gc = .skip
  | .ops l k => ∃ id ops, gc = .region id ops false ∧ cOps P ops n ops.toList = some l ∧ k = kill id
  | .drawn l k => ∃ id ops, gc = .region id ops true ∧ cOps P ops n ops.toList = some l ∧ k = kill id ∧ P.follows .mixedOrders = true ∧ Region.lexB .any ops = true ∧ tmpsOk ops ops.toList l = true
  | .seq x y => ∃ a b, gc = .seq a b ∧ cCode P n kill a = some x ∧ cCode P n kill b = some y
  | .cond z x y => z = .c .junk ∨ ∃ c a b, gc = .cond c a b ∧ cOpd c = some z ∧ cCode P n kill a = some x ∧ cCode P n kill b = some y
  | .block id x => ∃ c, gc = .block id c ∧ cCode P n kill c = some x
  | .loop x => ∃ c, gc = .loop c ∧ cCode P n kill c = some x
  | .exit id => gc = .exit id
  | .ret => gc = .ret
theorem cCode_inv {P : Program} {n : Nat} {kill : Nat → List Nat} {gc : Code} {pc : PC} (h : cCode P n kill gc = some pc) : CodeInv P n kill gc pc := by
  cases gc with
  | skip => injection h with h; subst h; rfl
  | region id ops draw =>
    simp only [cCode] at h
    split at h
    · rename_i l hl
      cases draw with
      | true =>
        simp only [if_true] at h
        split at h
        · rename_i hc
          injection h with h
          subst h
          exact ⟨id, ops, rfl, hl, rfl, hc.1, hc.2.1, hc.2.2⟩
        · injection h with h
          subst h
          exact .inl rfl
      | false =>
        simp only [Bool.false_eq_true, if_false] at h
        injection h with h
        subst h
        exact ⟨id, ops, rfl, hl, rfl⟩
    · injection h with h
      subst h
      exact .inl rfl
  | seq a b =>
    simp only [cCode] at h
    split at h
    · rename_i x y h1 h2
      injection h with h
      subst h
      exact ⟨a, b, rfl, h1, h2⟩
    · cases h
  | cond c a b =>
    simp only [cCode] at h
    split at h
    · rename_i z x y h1 h2 h3
      injection h with h
      subst h
      exact .inr ⟨c, a, b, rfl, h1, h2, h3⟩
    · injection h with h
      subst h
      exact .inl rfl
  | block id c =>
    obtain ⟨x, h1, rfl⟩ := Option.map_eq_some_iff.1 h
    exact ⟨c, rfl, h1⟩
  | loop c =>
    obtain ⟨x, h1, rfl⟩ := Option.map_eq_some_iff.1 h
    exact ⟨c, rfl, h1⟩
  | exit id => injection h with h; subst h; rfl
  | ret => injection h with h; subst h; rfl
  | _ => injection h with h; subst h; exact .inl rfl
theorem run_sound {P : Program} {tbl : Nat → Option PF} {prim ext : Nat → List PV → PV → Prop} (htbl : ∀ f pf, tbl f = some pf → FnOK P f pf) (hprim : ∀ f args r, prim f args r → SemCall P f args r) (hext : ∀ f args r, ext f args r → SemExt P f args r) {j : J} (h : Run tbl prim ext j) : SemJ P j := by
  induction h with
  | skip ρ st =>
    intro n kill gc hc X G w a hI hE
    obtain rfl : gc = .skip := cCode_inv hc
    exact ⟨wp_skip ⟨rfl, G, hI, hE⟩, fun c0 h => by cases h⟩
  | exit id ρ st =>
    intro n kill gc hc X G w a hI hE
    obtain rfl : gc = .exit id := cCode_inv hc
    exact ⟨wp_exit ⟨rfl, G, hI, hE⟩, fun c0 h => by cases h⟩
  | ret ρ st =>
    intro n kill gc hc X G w a hI hE
    obtain rfl : gc = .ret := cCode_inv hc
    exact ⟨wp_ret ⟨rfl, G, hI, hE⟩, fun c0 h => by cases h⟩
  | ops l kill ρ st ρ' st' h ih =>
    intro n kl gc hc X G w a hI hE
    obtain ⟨id, ops, rfl, h1, rfl⟩ := cCode_inv hc
    exact ⟨wp_region_list (ih n ops ops.toList h1 X G w a _ hI hE (fun G' w' a' k1 k2 => ⟨rfl, G', k1, dropA_env _ k2⟩)), fun c0 h => by cases h⟩
  | drawn l kill ρ st ρ' h ih =>
    intro n kl gc hc X G w a hI hE
    obtain ⟨id, ops, rfl, h1, rfl, h2, h3, h4⟩ := cCode_inv hc
    exact ⟨wp_drawn h2 h3 h4 h1 hI hE ih (fun a' w' k1 k2 => ⟨rfl, G, k1, dropA_env _ k2⟩), fun c0 h => by cases h⟩
  | seqN c d ρ st ρ1 st1 x ρ' st' h k ih1 ih2 =>
    intro n kl gc hc X G w a hI hE
    obtain ⟨c1, d1, rfl, h1, h2⟩ := cCode_inv hc
    refine ⟨wp_seq (wp_mono (ih1 n kl c1 h1 X G w a hI hE).1 fun e a1 w1 hp => ?_), fun c0 h => by cases h⟩
    obtain ⟨rfl, G1, k1, k2⟩ := hp
    exact (ih2 n kl d1 h2 X G1 w1 a1 k1 k2).1
  | seqX c d ρ st x ρ' st' hx h ih =>
    intro n kl gc hc X G w a hI hE
    obtain ⟨c1, d1, rfl, h1, h2⟩ := cCode_inv hc
    refine ⟨wp_seq (wp_mono (ih n kl c1 h1 X G w a hI hE).1 fun e a1 w1 hp => ?_), fun c0 h => by cases h⟩
    have he := hp.1
    cases x with
    | normal => exact absurd rfl hx
    | exit id => subst he; exact hp
    | ret => subst he; exact hp
  | cond c x y ρ st t ex ρ' st' hcv h ih =>
    intro n kl gc hc X G w a hI hE
    rcases cCode_inv hc with rfl | ⟨c1, a1, b1, rfl, h1, h2, h3⟩
    · cases hcv
    have hr := opd_rep hE h1
    rw [hcv] at hr
    refine ⟨wp_cond (rep_bool hr) ?_, fun c0 h => by cases h⟩
    cases t with
    | true => exact (ih n kl a1 h2 X G w a hI hE).1
    | false => exact (ih n kl b1 h3 X G w a hI hE).1
  | block id c ρ st x ρ' st' h ih =>
    intro n kl gc hc X G w a hI hE
    obtain ⟨c1, rfl, h1⟩ := cCode_inv hc
    refine ⟨wp_block (wp_mono (ih n kl c1 h1 X G w a hI hE).1 fun e a1 w1 hp => ?_), fun c0 h => by cases h⟩
    obtain ⟨rfl, G1, k1, k2⟩ := hp
    cases x with
    | normal => exact ⟨by simp [exC], G1, k1, k2⟩
    | ret => exact ⟨by simp [exC], G1, k1, k2⟩
    | exit id' =>
      simp only [exC, Exit.inBlock]
      by_cases hid : id' = id
      · subst hid
        rw [if_pos rfl]
        exact ⟨by simp [exC], G1, k1, k2⟩
      · rw [if_neg hid]
        exact ⟨by simp [hid, exC], G1, k1, k2⟩
  | loopN c ρ st ρ1 st1 x ρ' st' h k ih1 ih2 =>
    intro n kl gc hc X G w a hI hE
    have hc0 := hc
    obtain ⟨c1, rfl, h1⟩ := cCode_inv hc
    have key : wpIn P c1 (PostC X n x ρ' st') a w := wpIn_unroll (wp_mono (ih1 n kl c1 h1 X G w a hI hE).1 fun e a1 w1 hp => by
      obtain ⟨rfl, G1, k1, k2⟩ := hp
      exact (ih2 n kl (.loop c1) hc0 X G1 w1 a1 k1 k2).2 c1 rfl)
    exact ⟨wp_of_wpIn key, fun c0 h => by injection h with h; subst h; exact key⟩
  | loopX c ρ st x ρ' st' hx h ih =>
    intro n kl gc hc X G w a hI hE
    obtain ⟨c1, rfl, h1⟩ := cCode_inv hc
    have key : wpIn P c1 (PostC X n x ρ' st') a w := wpIn_unroll (wp_mono (ih n kl c1 h1 X G w a hI hE).1 fun e a1 w1 hp => by
      have he := hp.1
      cases x with
      | normal => exact absurd rfl hx
      | exit id => subst he; exact hp
      | ret => subst he; exact hp)
    exact ⟨wp_of_wpIn key, fun c0 h => by injection h with h; subst h; exact key⟩
  | weak c ρ st ρ1 st1 x ρ' st' hw h ih =>
    intro n kl gc hc X G w a hI hE
    obtain ⟨G1, k1, k2⟩ := weak_inv hI hE hw
    exact ih n kl gc hc X G1 w a k1 k2
  | opsNil ρ st =>
    intro n ops lo hc X G w a Q hI hE hQ
    have : lo = [] := by
      have := (cOps_get hc).1
      exact List.eq_nil_of_length_eq_zero (by simpa using this)
    subst this
    exact wpList_nil (hQ G w a hI hE)
  | opsSkip o l ρ st ρ' st' hg h ih =>
    intro n ops lo hc X G w a Q hI hE hQ
    obtain ⟨O, lo', rfl, h1, h2⟩ := cOps_cons hc
    obtain ⟨e1, e2, e3, e4⟩ := cPOp_spec h1
    refine wpList_step fun K hK => ?_
    rw [gd_wanted hE e1 hg]
    simp only [Bool.false_eq_true, if_false]
    refine hK _ _ (ih n ops lo' h2 X G w _ Q hI ?_ hQ)
    rw [e3]
    exact hE.put (dst_lt e4) undef_rep
  | opsQuiet o l ρ st p ρ' st' hg hq h ih =>
    intro n ops lo hc X G w a Q hI hE hQ
    obtain ⟨O, lo', rfl, h1, h2⟩ := cOps_cons hc
    obtain ⟨e1, e2, e3, e4⟩ := cPOp_spec h1
    refine wpList_step fun K hK => ?_
    rw [gd_wanted hE e1 hg]
    simp only [if_true]
    refine wp_lok hE e3.symm (by rw [e3]; exact e4) (((step_sound hI hE e2).1 p hq).lok hI) fun G' w' a' k1 k2 => hK _ _ (ih n ops lo' h2 X G' w' a' Q k1 k2 hQ)
  | opsLoud o l ρ st p st1 ρ' st' hg hq h ih =>
    intro n ops lo hc X G w a Q hI hE hQ
    obtain ⟨O, lo', rfl, h1, h2⟩ := cOps_cons hc
    obtain ⟨e1, e2, e3, e4⟩ := cPOp_spec h1
    refine wpList_step fun K hK => ?_
    rw [gd_wanted hE e1 hg]
    simp only [if_true]
    refine wp_lok hE e3.symm (by rw [e3]; exact e4) ((step_sound hI hE e2).2 p st1 hq) fun G' w' a' k1 k2 => hK _ _ (ih n ops lo' h2 X G' w' a' Q k1 k2 hQ)
  | opsCall o l ρ st f xs g caps args r ρ' st' hg ho hf hv hcall h ihc ih =>
    intro n ops lo hc X G w a Q hI hE hQ
    obtain ⟨O, lo', rfl, h1, h2⟩ := cOps_cons hc
    obtain ⟨e1, e2, e3, e4⟩ := cPOp_spec h1
    refine wpList_step fun K hK => ?_
    rw [gd_wanted hE e1 hg]
    simp only [if_true]
    rw [ho] at e2
    exact wp_call hI hE e3.symm (by rw [e3]; exact e4) e2 hf ihc (.inl hv) fun w' a' k1 k2 => hK _ _ (ih n ops lo' h2 X G w' a' Q k1 k2 hQ)
  | opsCallS o l ρ st f xs g caps args r ρ' st' hg ho hf hv hr hcall h ihc ih =>
    intro n ops lo hc X G w a Q hI hE hQ
    obtain ⟨O, lo', rfl, h1, h2⟩ := cOps_cons hc
    obtain ⟨e1, e2, e3, e4⟩ := cPOp_spec h1
    refine wpList_step fun K hK => ?_
    rw [gd_wanted hE e1 hg]
    simp only [if_true]
    rw [ho] at e2
    exact wp_call hI hE e3.symm (by rw [e3]; exact e4) e2 hf ihc (.inr ⟨hv, hr⟩) fun w' a' k1 k2 => hK _ _ (ih n ops lo' h2 X G w' a' Q k1 k2 hQ)
  | opsCallW o l ρ st ρ0 st0 f xs g caps args r ρ' st' hg ho hw hf hv hcall h ihc ih =>
    intro n ops lo hc X G w a Q hI hE hQ
    obtain ⟨O, lo', rfl, h1, h2⟩ := cOps_cons hc
    obtain ⟨e1, e2, e3, e4⟩ := cPOp_spec h1
    refine wpList_step fun K hK => ?_
    rw [gd_wanted hE e1 hg]
    simp only [if_true]
    rw [ho] at e2
    obtain ⟨G1, k1, k2⟩ := weak_inv hI hE hw
    exact wp_call k1 k2 e3.symm (by rw [e3]; exact e4) e2 hf ihc (.inl hv) fun w' a' k1 k2 => hK _ _ (ih n ops lo' h2 X G1 w' a' Q k1 k2 hQ)
  | opsExt o l ρ st f xs g caps args r ρ' st' hg ho hf hv hr hcall h ih =>
    intro n ops lo hc X G w a Q hI hE hQ
    obtain ⟨O, lo', rfl, h1, h2⟩ := cOps_cons hc
    obtain ⟨e1, e2, e3, e4⟩ := cPOp_spec h1
    refine wpList_step fun K hK => ?_
    rw [gd_wanted hE e1 hg]
    simp only [if_true]
    rw [ho] at e2
    exact wp_ext hI hE e3.symm (by rw [e3]; exact e4) e2 hf (hext _ _ _ hcall) hv hr fun G' w' a' k1 k2 => hK _ _ (ih n ops lo' h2 X G' w' a' Q k1 k2 hQ)
  | opsRaw o l ρ st f xs g caps q τ r st1 ρ' st' hg ho hf hp hb hcall h ihc ih =>
    intro n ops lo hc X G w a Q hI hE hQ
    obtain ⟨O, lo', rfl, h1, h2⟩ := cOps_cons hc
    obtain ⟨e1, e2, e3, e4⟩ := cPOp_spec h1
    refine wpList_step fun K hK => ?_
    rw [gd_wanted hE e1 hg]
    simp only [if_true]
    rw [ho] at e2
    exact wp_raw hI hE e3.symm (by rw [e3]; exact e4) e2 hf hp hb ihc fun G' w' a' k1 k2 => hK _ _ (ih n ops lo' h2 X G' w' a' Q k1 k2 hQ)
  | drawnNil ρ st => exact rfl
  | drawnSkip o l ρ st ρ' hg h ih => exact ⟨_, .inl ⟨hg, rfl⟩, ih⟩
  | drawnQuiet o l ρ st p ρ' hg hq h ih => exact ⟨p, .inr ⟨hg, .inl hq⟩, ih⟩
  | drawnCall o l ρ st f xs g caps args r ρ' hg ho hf hv hcall h ihc ih => exact ⟨r, .inr ⟨hg, .inr ⟨f, xs, g, caps, args, ho, hf, ihc, .inl hv⟩⟩, ih⟩
  | drawnCallS o l ρ st f xs g caps args r ρ' hg ho hf hv hr hcall h ihc ih => exact ⟨r, .inr ⟨hg, .inr ⟨f, xs, g, caps, args, ho, hf, ihc, .inr ⟨hv, hr⟩⟩⟩, ih⟩
  | call f pf args x ρ' st' r0 r hf hn h hx hr hv ih =>
    obtain ⟨fn, c, kill, h1, h2, h3, h4, h5, h6⟩ := (htbl f pf hf).ok
    refine ⟨⟨fn, c, h1, h2, h6⟩, fun F w vals hF hg hs hrep => ?_⟩
    refine calls_of_wp h1 h2 ?_
    rw [h4] at hn
    have hE0 : EnvRep noG (OwnF (callCx w F) emptySt noG) w fn.ntmps (envFrom 0 args) { tmps := vals ++ Array.replicate (fn.ntmps - vals.size) undef, defers := [] } := by
      rw [ownF_empty]
      exact env_begin hs hrep hn
    refine wp_mono (ih fn.ntmps kill c h3 (callCx w F) noG w _ (inv_empty hF hg) hE0).1 fun e a' w' hp => ?_
    obtain ⟨rfl, G', k1, k2⟩ := hp
    obtain ⟨u, hu, hru⟩ := results_run (P := P) k1 k2 h5 hr
    have hvr := view_rep k1 (own := F) (fun b hb => .inl hb) (fun _ b hb => hb) hv hru
    have fin : a'.defers = [] ∧ ∃ v, (results fn a'.tmps).run P w' = .ok v w' ∧ ∃ u, Ending.returned v = .returned u ∧ Below w.heap.size w w' ∧ Rep noG F w' u r := ⟨k2.defers, u, hu, u, rfl, (k1.frame : Chg (fun _ => False) w w').below, hvr⟩
    rcases hx with rfl | rfl
    · exact fin
    · exact fin
  | drawnL2 m1 m2 d B C l kill ρ st ρ' st' hm h ih =>
    intro n kl gc hc X G w a hI hE
    obtain ⟨id, ops, rfl, h1, rfl, h2, h3, h4⟩ := cCode_inv hc
    exact ⟨wp_drawnL2 hm h2 h3 h4 h1 hI hE ih fun G a w hI' hE' => ⟨rfl, G, hI', dropA_env _ hE'⟩, fun c0 h => by cases h⟩
  | dl2Nil m1 m2 d A B C k ρ st => exact ⟨rfl, rfl⟩
  | dl2Skip m1 m2 d A B C k o l ρ st ρ' st' hk1 hk2 hs hg h ih => exact ⟨_, _, .inl ⟨hk1, hk2, rfl, hs, fun s _ => .inl ⟨hg, rfl⟩⟩, ih⟩
  | dl2Quiet m1 m2 d A B C k o l ρ st p ρ' st' hk1 hk2 hs hg hq h ih => exact ⟨_, _, .inl ⟨hk1, hk2, rfl, hs, fun s hs' => .inr ⟨hg, .inl (hq s hs')⟩⟩, ih⟩
  | dl2Call m1 m2 d A B C k o l ρ st f xs g caps args r ρ' st' hk1 hk2 hs hg ho hf hv hc h ihc ih => exact ⟨_, _, .inl ⟨hk1, hk2, rfl, hs, fun s hs' => .inr ⟨hg, .inr ⟨f, xs, g, caps, args, ho, hf, ihc, .inl (hv s hs')⟩⟩⟩, ih⟩
  | dl2Loud1 m1 m2 d B C o l ρ st p ρ' st' hd hg hq h ih => exact ⟨_, _, .inr (.inl ⟨rfl, rfl, rfl, hd, hg, .inl hq⟩), ih⟩
  | dl2Raw1 m1 m2 d C o l ρ st f xs g caps q τ r st1 ρ' st' hd hg ho hf hp hb hc h ihc ih => exact ⟨_, _, .inr (.inl ⟨rfl, rfl, rfl, hd, hg, .inr ⟨f, xs, g, caps, q, τ, st1, ho, hf, hp, hb, ihc, rfl⟩⟩), ih⟩
  | dl2Loud2 m1 m2 d A C o l ρ st p ρ' st' hd hg hq h ih => exact ⟨_, _, .inr (.inr ⟨rfl, rfl, rfl, hd, hg, .inl hq⟩), ih⟩
  | dl2Raw2 m1 m2 d A o l ρ st f xs g caps q τ r st1 ρ' st' hd hg ho hf hp hb hc h ihc ih => exact ⟨_, _, .inr (.inr ⟨rfl, rfl, rfl, hd, hg, .inr ⟨f, xs, g, caps, q, τ, st1, ho, hf, hp, hb, ihc, rfl⟩⟩), ih⟩
  | drawnLi m1 m2 S l kill ρ ρ' b c h ih =>
    intro n kl gc hc X G w a hI hE
    obtain ⟨id, ops, rfl, h1, rfl, h2, h3, h4⟩ := cCode_inv hc
    exact ⟨wp_drawnLi h2 h3 h4 h1 hI hE ih fun G a w hI' hE' => ⟨rfl, G, hI', dropA_env _ hE'⟩, fun c0 h => by cases h⟩
  | dliNil m1 m2 S k ρ b c => exact ⟨rfl, rfl, rfl⟩
  | dliSkip m1 m2 S k o l ρ b c ρ' b' c' hk1 hk2 hg h ih => exact ⟨_, _, _, .inl ⟨hk1, hk2, rfl, rfl, fun x y => .inl ⟨hg, rfl⟩⟩, ih⟩
  | dliQuiet m1 m2 S k o l ρ b c p ρ' b' c' hk1 hk2 hg hq h ih => exact ⟨_, _, _, .inl ⟨hk1, hk2, rfl, rfl, fun x y => .inr ⟨hg, .inl (hq x y)⟩⟩, ih⟩
  | dliLoud1 m2 S k o l ρ c p ρ' b' c' hg hq h ih => exact ⟨_, _, _, .inr (.inl ⟨rfl, rfl, rfl, rfl, fun y => ⟨hg, .inl (hq y)⟩⟩), ih⟩
  | dliLoud2 m1 S k o l ρ b p ρ' b' c' hg hq h ih => exact ⟨_, _, _, .inr (.inr ⟨rfl, rfl, rfl, rfl, fun x => ⟨hg, .inl (hq x)⟩⟩), ih⟩
  | drawnL m B l kill ρ st ρ' st' h ih =>
    intro n kl gc hc X G w a hI hE
    obtain ⟨id, ops, rfl, h1, rfl, h2, h3, h4⟩ := cCode_inv hc
    exact ⟨wp_drawnL h2 h3 h4 h1 hI hE ih fun G a w hI' hE' => ⟨rfl, G, hI', dropA_env _ hE'⟩, fun c0 h => by cases h⟩
  | dlNil m A B k ρ st => exact ⟨rfl, rfl⟩
  | dlSkip m A B k o l ρ st ρ' st' hk hs hg h ih => exact ⟨_, _, .inl ⟨hk, rfl, hs, .inl ⟨hg, rfl⟩, .inl ⟨hg, rfl⟩⟩, ih⟩
  | dlQuiet m A B k o l ρ st p ρ' st' hk hs hg hq h ih => exact ⟨_, _, .inl ⟨hk, rfl, hs, .inr ⟨hg, .inl (hq _ (.inl rfl))⟩, .inr ⟨hg, .inl (hq _ (.inr rfl))⟩⟩, ih⟩
  | dlCall m A B k o l ρ st f xs g caps args r ρ' st' hk hs hg ho hf hv hc h ihc ih => exact ⟨_, _, .inl ⟨hk, rfl, hs, .inr ⟨hg, .inr ⟨f, xs, g, caps, args, ho, hf, ihc, .inl (hv _ (.inl rfl))⟩⟩, .inr ⟨hg, .inr ⟨f, xs, g, caps, args, ho, hf, ihc, .inl (hv _ (.inr rfl))⟩⟩⟩, ih⟩
  | dlLoud m B o l ρ st p ρ' st' hg hq h ih => exact ⟨_, _, .inr ⟨rfl, rfl, rfl, hg, .inl hq⟩, ih⟩
  | dlRaw m o l ρ st f xs g caps q τ r st1 ρ' st' hg ho hf hp hb hc h ihc ih => exact ⟨_, _, .inr ⟨rfl, rfl, rfl, hg, .inr ⟨f, xs, g, caps, q, τ, st1, ho, hf, hp, hb, ihc, rfl⟩⟩, ih⟩
  | prim f args r h => exact hprim f args r h
  | raw f pf args st x ρ' st' r hf hn h hx hr ih =>
    obtain ⟨fn, c, kill, h1, h2, h3, h4, h5, h6⟩ := (htbl f pf hf).ok
    refine ⟨⟨fn, c, h1, h2, h6⟩, fun X G w vals hI hs hrep => ?_⟩
    refine calls_of_wp h1 h2 ?_
    rw [h4] at hn
    refine wp_mono (ih fn.ntmps kill c h3 X G w _ hI (env_begin hs hrep hn)).1 fun e a' w' hp => ?_
    obtain ⟨rfl, G', k1, k2⟩ := hp
    obtain ⟨u, hu, hru⟩ := results_run (P := P) k1 k2 h5 hr
    have fin : a'.defers = [] ∧ ∃ v, (results fn a'.tmps).run P w' = .ok v w' ∧ ∃ u, Ending.returned v = .returned u ∧ ∃ G', Inv X st' G' w' ∧ Rep G' (OwnF X st' G') w' u r := ⟨k2.defers, u, hu, u, rfl, G', k1, hru⟩
    rcases hx with rfl | rfl
    · exact fin
    · exact fin
end Go.AM

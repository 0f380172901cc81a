/- The abstract machine: AM18: code made plain; what a run is. · AM19: a run of plain code is a run of the machine: the parts. · AM20: one operation, calls. · AM21: regions whose order is drawn: one walk serves every order. -/
import Derived.Test.YtfdebgebnkbagaaDoorAmC
set_option linter.unusedVariables false
set_option linter.unusedSimpArgs false
namespace Go.AM
open Go.RowKit

/-! ### Compiling -/
def cGuard (ops : Array Oper) : Option (Nat × Bool) → Option (Option (Nat × Bool))
  | none => some none
  | some (j, want) => match (ops[j]?).bind (·.dst) with
    | some t => some (some (t, want))
    | none => none
def dstOk (n : Nat) : Option Nat → Bool
  | none => true
  | some d => decide (d < n)
def cPOp (P : Program) (ops : Array Oper) (n : Nat) (o : Oper) : Option POp :=
  match cGuard ops o.guard, cOp P o.op with
  | some g, some pi => if dstOk n o.dst = true then some ⟨o.dst, g, pi⟩ else none
  | _, _ => none
def cOps (P : Program) (ops : Array Oper) (n : Nat) : List Oper → Option (List POp)
  | [] => some []
  | o :: r => match cPOp P ops n o, cOps P ops n r with
    | some p, some ps => some (p :: ps)
    | _, _ => none
def Opd.tmps : Opd → List Nat
  | .t n => [n]
  | .c _ => []
def optTmps : Option Opd → List Nat
  | none => []
  | some x => x.tmps
/-- The temporaries that an instruction looks at. -/
def PI.tmps : PI → List Nat
  | .move x | .box x | .fieldAddr x _ | .field x _ _ _ | .conv _ x | .toBytes x | .toStr x | .textId x | .neg x | .not x | .eqNil _ _ x | .extract x _ | .mkIface _ x | .nilCheck x | .len _ x | .cap x | .load _ _ x => x.tmps
  | .pick c a b => c.tmps ++ (a.tmps ++ b.tmps)
  | .store _ x y | .indexA x y _ _ | .indexS x y _ | .indexStr x y | .bin _ x y | .eqBool _ x y | .eqAgg _ x y | .makeSl _ _ _ x y | .append _ _ _ x y | .copy _ x y => x.tmps ++ y.tmps
  | .alloc _ => []
  | .build _ ps => ps.flatMap fun p => p.2.2.tmps
  | .buildSl _ _ ps => ps.flatMap fun p => p.2.tmps
  | .sliceStr x lo hi => x.tmps ++ (optTmps lo ++ optTmps hi)
  | .sliceSl x _ lo hi mx => x.tmps ++ (optTmps lo ++ (optTmps hi ++ optTmps mx))
  | .sliceArr x _ _ lo hi mx => x.tmps ++ (optTmps lo ++ (optTmps hi ++ optTmps mx))
  | .mkFunc _ caps => caps.flatMap Opd.tmps
  | .minmax _ xs => xs.flatMap Opd.tmps
  | .call f xs => f.tmps ++ xs.flatMap Opd.tmps
def POp.tmps (o : POp) : List Nat := o.op.tmps ++ (match o.guard with | some (t, _) => [t] | none => [])
/-- An operation of a region whose order is drawn looks at no more than the machine says. -/
def tmpsOk (ops : Array Oper) : List Oper → List POp → Bool
  | o :: r, p :: ps => p.tmps.all (fun t => (o.looksAt ops).contains t) && decide (p.dst = o.dst) && tmpsOk ops r ps
  | [], [] => true
  | _, _ => false
/-- Code that no run comes to: what is not covered. -/
def badPC : PC := .cond (.c .junk) .skip .skip
def cCode (P : Program) (n : Nat) (kill : Nat → List Nat) : Code → Option PC
  | .skip => some .skip
  | .region id ops draw => match cOps P ops n ops.toList with
    | some l => if draw = true then (if P.follows .mixedOrders = true ∧ Region.lexB .any ops = true ∧ tmpsOk ops ops.toList l = true then some (.drawn l (kill id)) else some badPC) else some (.ops l (kill id))
    | none => some badPC
  | .seq a b => match cCode P n kill a, cCode P n kill b with
    | some x, some y => some (.seq x y)
    | _, _ => none
  | .cond c a b => match cOpd c, cCode P n kill a, cCode P n kill b with
    | some z, some x, some y => some (.cond z x y)
    | _, _, _ => some badPC
  | .block id c => (cCode P n kill c).map (.block id)
  | .loop c => (cCode P n kill c).map .loop
  | .exit id => some (.exit id)
  | .ret => some .ret
  | _ => some badPC
def cRes (P : Program) : ResultVar → Option PRes
  | .tmp t => some (.tmp t)
  | .cell a t => match tyOf P t with
    | some (d, i) => if aggD d = true ∨ i.size = 1 then some (.cell a i.size (aggD d)) else none
    | none => none
def cRess (P : Program) : List ResultVar → Option (List PRes)
  | [] => some []
  | r :: rs => match cRes P r, cRess P rs with
    | some x, some xs => some (x :: xs)
    | _, _ => none
/-- A function's plain form. -/
structure FnOK (P : Program) (f : Nat) (pf : PF) : Prop where
  ok : ∃ fn c kill, P.funcs[f]? = some fn ∧ fn.body = some c ∧ cCode P fn.ntmps kill c = some pf.body ∧ pf.ntmps = fn.ntmps ∧ cRess P fn.results.toList = some pf.results ∧ (fn.name == "runtime.NumGoroutine") = false

/-! ### Runs -/
inductive EX where
  | normal
  | exit (id : Nat)
  | ret
  deriving DecidableEq

def gd (e : Nat → Option PV) : Option (Nat × Bool) → Option Bool
  | none => some true
  | some (t, want) => match e t with
    | some (.bool b) => some (b == want)
    | some (.tuple []) => some false
    | _ => none

def ViewL (live : Bool) (look : Nat → Option Tok) (xs ys : List PV) : Prop := xs.length = ys.length ∧ ∀ (i : Nat) (x y : PV), xs[i]? = some x → ys[i]? = some y → View live look x y
def scalarR : PV → Bool
  | .tuple vs => vs.all scalar?
  | v => scalar? v

def envFrom (k : Nat) : List PV → Env
  | [] => []
  | p :: r => (k, p) :: envFrom (k + 1) r

def mapO {α β : Type} (f : α → Option β) : List α → Option (List β)
  | [] => some []
  | x :: r => match f x, mapO f r with
    | some y, some ys => some (y :: ys)
    | _, _ => none
def res1 (ρ : Env) (look : Nat → Option Tok) : PRes → Option PV
  | .tmp t => some (ρ.at t)
  | .cell a n agg => loadAt look n agg (ρ.at a)
def resOf (ρ : Env) (look : Nat → Option Tok) (rs : List PRes) : Option PV :=
  match mapO (res1 ρ look) rs with
  | some [v] => some v
  | some vs => some (.tuple vs)
  | none => none

/-- Only tokens below m. -/
inductive Bel (m : Nat) : PV → Prop
  | junk : Bel m .junk
  | bool (b) : Bel m (.bool b)
  | int (k n) : Bel m (.int k n)
  | str (s) : Bel m (.str s)
  | nilPtr : Bel m .nilPtr
  | ptr (t off) (h : t < m) : Bel m (.ptr t off)
  | rptr (t g i off) (h : t < m) : Bel m (.rptr t g i off)
  | iptr (cs off) (h : ∀ c ∈ cs, Bel m c) : Bel m (.iptr cs off)
  | nilSl : Bel m .nilSl
  | sl (xs full) (h : ∀ cs ∈ xs, ∀ c ∈ cs, Bel m c) : Bel m (.sl xs full)
  | osl (t g off len full) (h : t < m) : Bel m (.osl t g off len full)
  | vsl (t off sz len) (h : t < m) : Bel m (.vsl t off sz len)
  | func (f cs) (h : ∀ c ∈ cs, Bel m c) : Bel m (.func f cs)
  | nilFunc : Bel m .nilFunc
  | iface (ty v) (h : Bel m v) : Bel m (.iface ty v)
  | nilIface : Bel m .nilIface
  | agg (cs) (h : ∀ c ∈ cs, Bel m c) : Bel m (.agg cs)
  | tuple (cs) (h : ∀ c ∈ cs, Bel m c) : Bel m (.tuple cs)
def BelTok (m : Nat) : Tok → Prop
  | .var cs => ∀ c ∈ cs, Bel m c
  | .row _ _ es _ => ∀ cs ∈ es, ∀ c ∈ cs, Bel m c

/-- Less is known. -/
structure Weak (ρ : Env) (st : St) (ρ' : Env) (st' : St) : Prop where
  base : st'.base = st.base
  next : st'.base ≤ st'.next ∧ st'.next ≤ st.next
  env : ∀ t p, getA t ρ' = some p → p = .junk ∨ (getA t ρ = some p ∧ Bel st'.next p)
  toks : ∀ t k, st'.get t = some k → t < st'.next ∧ BelTok st'.next k ∧ (st.get t = some k ∨ ∃ g sz es, k = .row g sz es false ∧ st.get t = some (.row g sz es true))

inductive J where
  | code (c : PC) (ρ : Env) (st : St) (x : EX) (ρ' : Env) (st' : St)
  | ops (l : List POp) (ρ : Env) (st : St) (ρ' : Env) (st' : St)
  | drawn (l : List POp) (ρ : Env) (st : St) (ρ' : Env)
  | call (f : Nat) (args : List PV) (r : PV)
  | raw (f : Nat) (args : List PV) (st : St) (r : PV) (st' : St)
  | dl (m : Nat) (A B : St) (k : Nat) (l : List POp) (ρ : Env) (st : St) (ρ' : Env) (st' : St)

/-- What a run of plain code is. prim, ext: calls told otherwise. -/
inductive Run (tbl : Nat → Option PF) (prim ext : Nat → List PV → PV → Prop) : J → Prop
  | skip (ρ st) : Run tbl prim ext (.code .skip ρ st .normal ρ st)
  | ops (l kill ρ st ρ' st') (h : Run tbl prim ext (.ops l ρ st ρ' st')) : Run tbl prim ext (.code (.ops l kill) ρ st .normal (dropA kill ρ') st')
  | drawn (l kill ρ st ρ') (h : Run tbl prim ext (.drawn l ρ st ρ')) : Run tbl prim ext (.code (.drawn l kill) ρ st .normal (dropA kill ρ') st)
  | seqN (a b ρ st ρ1 st1 x ρ' st') (h : Run tbl prim ext (.code a ρ st .normal ρ1 st1)) (k : Run tbl prim ext (.code b ρ1 st1 x ρ' st')) : Run tbl prim ext (.code (.seq a b) ρ st x ρ' st')
  | seqX (a b ρ st x ρ' st') (hx : x ≠ .normal) (h : Run tbl prim ext (.code a ρ st x ρ' st')) : Run tbl prim ext (.code (.seq a b) ρ st x ρ' st')
  | cond (c a b ρ st t x ρ' st') (hc : c.ev ρ = .bool t) (h : Run tbl prim ext (.code (if t then a else b) ρ st x ρ' st')) : Run tbl prim ext (.code (.cond c a b) ρ st x ρ' st')
  | block (id c ρ st x ρ' st') (h : Run tbl prim ext (.code c ρ st x ρ' st')) : Run tbl prim ext (.code (.block id c) ρ st (if x = .exit id then .normal else x) ρ' st')
  | loopN (c ρ st ρ1 st1 x ρ' st') (h : Run tbl prim ext (.code c ρ st .normal ρ1 st1)) (k : Run tbl prim ext (.code (.loop c) ρ1 st1 x ρ' st')) : Run tbl prim ext (.code (.loop c) ρ st x ρ' st')
  | loopX (c ρ st x ρ' st') (hx : x ≠ .normal) (h : Run tbl prim ext (.code c ρ st x ρ' st')) : Run tbl prim ext (.code (.loop c) ρ st x ρ' st')
  | exit (id ρ st) : Run tbl prim ext (.code (.exit id) ρ st (.exit id) ρ st)
  | ret (ρ st) : Run tbl prim ext (.code .ret ρ st .ret ρ st)
  | weak (c ρ st ρ1 st1 x ρ' st') (hw : Weak ρ st ρ1 st1) (h : Run tbl prim ext (.code c ρ1 st1 x ρ' st')) : Run tbl prim ext (.code c ρ st x ρ' st')
  | opsNil (ρ st) : Run tbl prim ext (.ops [] ρ st ρ st)
  | opsSkip (o l ρ st ρ' st') (hg : gd (getA · ρ) o.guard = some false) (h : Run tbl prim ext (.ops l (Env.put ρ o.dst (.tuple [])) st ρ' st')) : Run tbl prim ext (.ops (o :: l) ρ st ρ' st')
  | opsQuiet (o l ρ st p ρ' st') (hg : gd (getA · ρ) o.guard = some true) (hq : quiet st.get (Opd.ev ρ) o.op = some p) (h : Run tbl prim ext (.ops l (Env.put ρ o.dst p) st ρ' st')) : Run tbl prim ext (.ops (o :: l) ρ st ρ' st')
  | opsLoud (o l ρ st p st1 ρ' st') (hg : gd (getA · ρ) o.guard = some true) (hq : loud st (Opd.ev ρ) o.op = some (p, st1)) (h : Run tbl prim ext (.ops l (Env.put ρ o.dst p) st1 ρ' st')) : Run tbl prim ext (.ops (o :: l) ρ st ρ' st')
  | opsCall (o l ρ st f xs g caps args r ρ' st') (hg : gd (getA · ρ) o.guard = some true) (ho : o.op = .call f xs) (hf : f.ev ρ = .func g caps) (hv : ViewL false st.get (xs.map (Opd.ev ρ) ++ caps) args) (hc : Run tbl prim ext (.call g args r))
      (h : Run tbl prim ext (.ops l (Env.put ρ o.dst r) st ρ' st')) : Run tbl prim ext (.ops (o :: l) ρ st ρ' st')
  | opsCallS (o l ρ st f xs g caps args r ρ' st') (hg : gd (getA · ρ) o.guard = some true) (ho : o.op = .call f xs) (hf : f.ev ρ = .func g caps) (hv : ViewL true st.get (xs.map (Opd.ev ρ) ++ caps) args) (hr : scalarR r = true) (hc : Run tbl prim ext (.call g args r))
      (h : Run tbl prim ext (.ops l (Env.put ρ o.dst r) st ρ' st')) : Run tbl prim ext (.ops (o :: l) ρ st ρ' st')
  | opsExt (o l ρ st f xs g caps args r ρ' st') (hg : gd (getA · ρ) o.guard = some true) (ho : o.op = .call f xs) (hf : f.ev ρ = .func g caps) (hv : ViewL true st.get (xs.map (Opd.ev ρ) ++ caps) args) (hr : scalarR r = true) (hc : ext g args r)
      (h : Run tbl prim ext (.ops l (Env.put ρ o.dst r) st ρ' st')) : Run tbl prim ext (.ops (o :: l) ρ st ρ' st')
  | opsRaw (o l ρ st f xs g caps q τ r st1 ρ' st') (hg : gd (getA · ρ) o.guard = some true) (ho : o.op = .call f xs) (hf : f.ev ρ = .func g caps) (hp : Parts st q τ) (hb : st1.base = st.next) (hc : Run tbl prim ext (.raw g (xs.map (Opd.ev ρ) ++ caps) (partSt st τ) r st1))
      (h : Run tbl prim ext (.ops l (Env.put ρ o.dst r) (joinSt st q st1) ρ' st')) : Run tbl prim ext (.ops (o :: l) ρ st ρ' st')
  | drawnNil (ρ st) : Run tbl prim ext (.drawn [] ρ st ρ)
  | drawnSkip (o l ρ st ρ') (hg : gd (getA · ρ) o.guard = some false) (h : Run tbl prim ext (.drawn l (Env.put ρ o.dst (.tuple [])) st ρ')) : Run tbl prim ext (.drawn (o :: l) ρ st ρ')
  | drawnQuiet (o l ρ st p ρ') (hg : gd (getA · ρ) o.guard = some true) (hq : quiet st.get (Opd.ev ρ) o.op = some p) (h : Run tbl prim ext (.drawn l (Env.put ρ o.dst p) st ρ')) : Run tbl prim ext (.drawn (o :: l) ρ st ρ')
  | drawnCall (o l ρ st f xs g caps args r ρ') (hg : gd (getA · ρ) o.guard = some true) (ho : o.op = .call f xs) (hf : f.ev ρ = .func g caps) (hv : ViewL false st.get (xs.map (Opd.ev ρ) ++ caps) args) (hc : Run tbl prim ext (.call g args r))
      (h : Run tbl prim ext (.drawn l (Env.put ρ o.dst r) st ρ')) : Run tbl prim ext (.drawn (o :: l) ρ st ρ')
  | drawnCallS (o l ρ st f xs g caps args r ρ') (hg : gd (getA · ρ) o.guard = some true) (ho : o.op = .call f xs) (hf : f.ev ρ = .func g caps) (hv : ViewL true st.get (xs.map (Opd.ev ρ) ++ caps) args) (hr : scalarR r = true) (hc : Run tbl prim ext (.call g args r))
      (h : Run tbl prim ext (.drawn l (Env.put ρ o.dst r) st ρ')) : Run tbl prim ext (.drawn (o :: l) ρ st ρ')
  | drawnL (m B l kill ρ st ρ' st') (h : Run tbl prim ext (.dl m st B 0 l ρ st ρ' st')) : Run tbl prim ext (.code (.drawn l kill) ρ st .normal (dropA kill ρ') st')
  | dlNil (m A B k ρ st) : Run tbl prim ext (.dl m A B k [] ρ st ρ st)
  | dlSkip (m A B k o l ρ st ρ' st') (hk : k ≠ m) (hs : st = A ∨ st = B) (hg : gd (getA · ρ) o.guard = some false) (h : Run tbl prim ext (.dl m A B (k + 1) l (Env.put ρ o.dst (.tuple [])) st ρ' st')) : Run tbl prim ext (.dl m A B k (o :: l) ρ st ρ' st')
  | dlQuiet (m A B k o l ρ st p ρ' st') (hk : k ≠ m) (hs : st = A ∨ st = B) (hg : gd (getA · ρ) o.guard = some true) (hq : ∀ s, s = A ∨ s = B → quiet s.get (Opd.ev ρ) o.op = some p) (h : Run tbl prim ext (.dl m A B (k + 1) l (Env.put ρ o.dst p) st ρ' st')) : Run tbl prim ext (.dl m A B k (o :: l) ρ st ρ' st')
  | dlCall (m A B k o l ρ st f xs g caps args r ρ' st') (hk : k ≠ m) (hs : st = A ∨ st = B) (hg : gd (getA · ρ) o.guard = some true) (ho : o.op = .call f xs) (hf : f.ev ρ = .func g caps) (hv : ∀ s, s = A ∨ s = B → ViewL false s.get (xs.map (Opd.ev ρ) ++ caps) args) (hc : Run tbl prim ext (.call g args r))
      (h : Run tbl prim ext (.dl m A B (k + 1) l (Env.put ρ o.dst r) st ρ' st')) : Run tbl prim ext (.dl m A B k (o :: l) ρ st ρ' st')
  | dlLoud (m B o l ρ st p ρ' st') (hg : gd (getA · ρ) o.guard = some true) (hq : loud st (Opd.ev ρ) o.op = some (p, B)) (h : Run tbl prim ext (.dl m st B (m + 1) l (Env.put ρ o.dst p) B ρ' st')) : Run tbl prim ext (.dl m st B m (o :: l) ρ st ρ' st')
  | dlRaw (m o l ρ st f xs g caps q τ r st1 ρ' st') (hg : gd (getA · ρ) o.guard = some true) (ho : o.op = .call f xs) (hf : f.ev ρ = .func g caps) (hp : Parts st q τ) (hb : st1.base = st.next) (hc : Run tbl prim ext (.raw g (xs.map (Opd.ev ρ) ++ caps) (partSt st τ) r st1))
      (h : Run tbl prim ext (.dl m st (joinSt st q st1) (m + 1) l (Env.put ρ o.dst r) (joinSt st q st1) ρ' st')) : Run tbl prim ext (.dl m st (joinSt st q st1) m (o :: l) ρ st ρ' st')
  | call (f pf args x ρ' st' r0 r) (hf : tbl f = some pf) (hn : args.length ≤ pf.ntmps) (h : Run tbl prim ext (.code pf.body (envFrom 0 args) emptySt x ρ' st')) (hx : x = .normal ∨ x = .ret) (hr : resOf ρ' st'.get pf.results = some r0) (hv : View true st'.get r0 r) : Run tbl prim ext (.call f args r)
  | prim (f args r) (h : prim f args r) : Run tbl prim ext (.call f args r)
  | raw (f pf args st x ρ' st' r) (hf : tbl f = some pf) (hn : args.length ≤ pf.ntmps) (h : Run tbl prim ext (.code pf.body (envFrom 0 args) st x ρ' st')) (hx : x = .normal ∨ x = .ret) (hr : resOf ρ' st'.get pf.results = some r) : Run tbl prim ext (.raw f args st r st')
end Go.AM

set_option linter.unusedVariables false
set_option linter.unusedSimpArgs false
namespace Go.AM
open Go.RowKit

/-! ### Loops, one round at a time -/
def wpIn (P : Program) (c : Code) (Q : Exit → Act → World → Prop) (a : Act) (w : World) : Prop :=
  ∀ (b : Frame) (k : List Item) (cs : List Frame), ∃ e a' w', Q e a' w' ∧ Arrives P (lone (b.at a (.code c :: .inLoop c :: k)) cs w) b k cs e a' w'
theorem wp_of_wpIn {P : Program} {c : Code} {Q : Exit → Act → World → Prop} {a : Act} {w : World} (h : wpIn P c Q a w) : (Code.loop c).wp P Q a w := by
  intro b k cs
  obtain ⟨e, a', w', hq, harr⟩ := h b k cs
  exact ⟨e, a', w', hq, .of_steps (.one step_loop) harr⟩
theorem wpIn_unroll {P : Program} {c : Code} {Q : Exit → Act → World → Prop} {a : Act} {w : World} (h : c.wp P (Exit.then (wpIn P c Q) Q) a w) : wpIn P c Q a w := by
  intro b k cs
  obtain ⟨e, a₁, w₁, hq, harr⟩ := h b (.inLoop c :: k) cs
  cases e with
  | normal =>
    obtain ⟨e₂, a₂, w₂, hq₂, harr₂⟩ := hq b k cs
    exact ⟨e₂, a₂, w₂, hq₂, .of_steps (Steps.trans harr (.one step_inLoop)) harr₂⟩
  | exit id => exact ⟨_, a₁, w₁, hq, .pass (x := .inLoop c) rfl (fun _ _ => .inl (by simp)) harr⟩
  | goto l => exact ⟨_, a₁, w₁, hq, .pass (x := .inLoop c) rfl (fun _ _ => .inl (by simp)) harr⟩
  | ret => exact ⟨_, a₁, w₁, hq, .pass (x := .inLoop c) rfl (fun _ _ => .inl (by simp)) harr⟩
  | panic ch => exact ⟨_, a₁, w₁, hq, .pass (x := .inLoop c) rfl (fun _ _ => .inl (by simp)) harr⟩
  | outgrown => exact ⟨_, a₁, w₁, hq, .pass (x := .inLoop c) rfl (fun _ _ => .inl (by simp)) harr⟩

/-! ### What calls mean -/
/-- There is such a function, with a body. -/
def Enters (P : Program) (f : Nat) : Prop := ∃ fn c, P.funcs[f]? = some fn ∧ fn.body = some c ∧ (fn.name == "runtime.NumGoroutine") = false
def SemCall (P : Program) (f : Nat) (args : List PV) (r : PV) : Prop :=
  Enters P f ∧ ∀ (F : Nat → Prop) (w : World) (vals : Array Value), (∀ b, F b → b < w.heap.size) → vals.size = args.length → (∀ (i : Nat) (c : PV), args[i]? = some c → Rep noG F w (vals.getD i undef) c) →
    Calls P f vals w (fun e w' => ∃ u, e = .returned u ∧ Below w.heap.size w w' ∧ Rep noG F w' u r)
def SemRaw (P : Program) (f : Nat) (args : List PV) (st : St) (r : PV) (st' : St) : Prop :=
  Enters P f ∧ ∀ (X : Cx) (G : Gh) (w : World) (vals : Array Value), Inv X st G w → vals.size = args.length → (∀ (i : Nat) (c : PV), args[i]? = some c → Rep G (OwnF X st G) w (vals.getD i undef) c) →
    Calls P f vals w (fun e w' => ∃ u, e = .returned u ∧ ∃ G', Inv X st' G' w' ∧ Rep G' (OwnF X st' G') w' u r)
/-- A function without a Go body: the model's own entry. -/
def SemExt (P : Program) (f : Nat) (args : List PV) (r : PV) : Prop :=
  ∀ (F : Nat → Prop) (w : World) (vals : Array Value), vals.size = args.length → (∀ (i : Nat) (c : PV), args[i]? = some c → Rep noG F w (vals.getD i undef) c) →
    ∃ u w', (callFunc f vals).run P w = .ok (.value u) w' ∧ Below w.heap.size w w' ∧ Rep noG F w' u r

def exC : EX → Exit
  | .normal => .normal
  | .exit id => .exit id
  | .ret => .ret
def PostC (X : Cx) (n : Nat) (x : EX) (ρ' : Env) (st' : St) : Exit → Act → World → Prop :=
  fun e a' w' => e = exC x ∧ ∃ G', Inv X st' G' w' ∧ EnvRep G' (OwnF X st' G') w' n ρ' a'
def SemCode (P : Program) (c : PC) (ρ : Env) (st : St) (x : EX) (ρ' : Env) (st' : St) : Prop :=
  ∀ (n : Nat) (kill : Nat → List Nat) (gc : Code), cCode P n kill gc = some c → ∀ (X : Cx) (G : Gh) (w : World) (a : Act), Inv X st G w → EnvRep G (OwnF X st G) w n ρ a →
    gc.wp P (PostC X n x ρ' st') a w ∧ ∀ c0, gc = .loop c0 → wpIn P c0 (PostC X n x ρ' st') a w
def SemOps (P : Program) (l : List POp) (ρ : Env) (st : St) (ρ' : Env) (st' : St) : Prop :=
  ∀ (n : Nat) (ops : Array Oper) (lo : List Oper), cOps P ops n lo = some l → ∀ (X : Cx) (G : Gh) (w : World) (a : Act) (Q : Exit → Act → World → Prop), Inv X st G w → EnvRep G (OwnF X st G) w n ρ a →
    (∀ G' w' a', Inv X st' G' w' → EnvRep G' (OwnF X st' G') w' n ρ' a' → Q .normal a' w') → wpList P ops Q lo a w

/-! ### Guards -/
section
variable {P : Program} {X : Cx} {st : St} {G : Gh} {own : Nat → Prop} {w : World} {n : Nat} {ρ : Env} {a : Act}

theorem gd_wanted (hE : EnvRep G own w n ρ a) {ops : Array Oper} {o : Oper} {g : Option (Nat × Bool)} (hc : cGuard ops o.guard = some g) {b : Bool} (hg : gd (getA · ρ) g = some b) : Region.wanted o (yielded ops a.tmps) = b := by
  unfold Region.wanted
  cases hgu : o.guard with
  | none =>
    rw [hgu] at hc
    injection hc with hc
    subst hc
    injection hg with hg
  | some jw =>
    obtain ⟨j, want⟩ := jw
    rw [hgu] at hc
    simp only [cGuard] at hc
    split at hc
    · rename_i t ht
      injection hc with hc
      subst hc
      simp only [gd] at hg
      simp only [yielded, ht, Option.bind_some]
      split at hg
      · rename_i b' hb'
        injection hg with hg
        have hr := hE.reps t _ hb'
        have hv : a.tmps[t]? = some (.bool b') := by
          rw [Array.getD_eq_getD_getElem?] at hr
          cases ht2 : a.tmps[t]? with
          | none => rw [ht2] at hr; simp [undef] at hr; cases hr
          | some v => rw [ht2] at hr; simp at hr; rw [rep_bool hr]
        rw [hv]
        simp only
        rw [← hg]
        cases b' <;> cases want <;> rfl
      · rename_i hb'
        injection hg with hg
        have hr := hE.reps t _ hb'
        have hv : a.tmps[t]? = none ∨ a.tmps[t]? = some undef := by
          rw [Array.getD_eq_getD_getElem?] at hr
          cases ht2 : a.tmps[t]? with
          | none => exact .inl rfl
          | some v =>
            rw [ht2] at hr
            simp at hr
            obtain ⟨vs, hvs, hs, _⟩ := rep_tuple hr
            have : vs = #[] := Array.eq_empty_of_size_eq_zero (by simpa using hs)
            subst this
            exact .inr (by rw [hvs]; rfl)
        rcases hv with hv | hv
        · rw [hv]
          subst hg
          rfl
        · rw [hv]
          subst hg
          simp [undef]
      · cases hg
    · cases hc

theorem dst_lt {d : Option Nat} (h : dstOk n d = true) : ∀ t, d = some t → t < n := by
  intro t ht
  subst ht
  simpa [dstOk] using h
theorem undef_rep : Rep G own w undef (.tuple []) := .tuple [] #[] rfl (fun i c h => by simp at h)

/-! ### Calls -/
theorem run_callOp {fo : Operand} {args : Array Operand} {ts : Array TypeId} {o : Oper} (ho : o.op = .call { callee := .value fo, args := args, argTypes := ts }) {g : Nat} {vs : Array Value} (hf : a.eval fo = .func (.func g) #[] vs) :
    (execOp a.eval o).run P w = (callFunc g (args.map a.eval ++ vs)).run P w := by
  simp only [execOp, ho, resolve, hf, Deferred.ofValue]
  simp [invoke]
theorem run_enter {g : Nat} {fn : Func} {vals : Array Value} (hf : P.funcs[g]? = some fn) (hn : (fn.name == "runtime.NumGoroutine") = false) {c : Code} (hb : fn.body = some c) : (callFunc g vals).run P w = .ok (.enter g vals) w := by
  have : (fn.name = "runtime.NumGoroutine") = False := by
    apply propext
    constructor
    · intro h; rw [h] at hn; simp at hn
    · exact False.elim
  simp [callFunc, hf, this, hb]

/-- The arguments of a call, with what the function value holds. -/
theorem args_rep {hI : True} (hE : EnvRep G own w n ρ a) {args : Array Operand} {xs : List Opd} (hx : cOpds args.toList = some xs) {vs : Array Value} {caps : List PV} (hs : vs.size = caps.length) (hv : ∀ (i : Nat) (c : PV), caps[i]? = some c → Rep G own w (vs.getD i undef) c) :
    (args.map a.eval ++ vs).size = (xs.map (Opd.ev ρ) ++ caps).length ∧ ∀ (i : Nat) (c : PV), (xs.map (Opd.ev ρ) ++ caps)[i]? = some c → Rep G own w ((args.map a.eval ++ vs).getD i undef) c := by
  obtain ⟨h1, h2⟩ := opds_rep hE hx
  have hl : args.size = xs.length := by simpa using h1
  refine ⟨by simp [hl, hs], fun i c hc => ?_⟩
  rw [List.getElem?_append] at hc
  split at hc
  · rename_i hi
    have := h2 i c hc
    simp at hi
    rw [Array.getD_eq_getD_getElem?, Array.getElem?_append_left (by simpa [hl] using hi)]
    rw [List.getD_eq_getElem?_getD] at this
    simpa using this
  · rename_i hi
    simp at hi hc
    have := hv _ c hc
    rw [Array.getD_eq_getD_getElem?, Array.getElem?_append_right (by simpa [hl] using hi)]
    rw [Array.getD_eq_getD_getElem?] at this
    simpa [hl] using this

theorem scalar_rep {G' : Gh} {own' : Nat → Prop} {w' : World} {v : Value} {r : PV} (h : scalarR r = true) (hr : Rep G own w v r) : Rep G' own' w' v r := by
  have one : ∀ {v : Value} {r : PV}, scalar? r = true → Rep G own w v r → Rep G' own' w' v r := by
    intro v r h hr
    cases hr <;> first | (cases h; done) | exact .bool _ | exact .int _ _ | exact .str _
  unfold scalarR at h
  split at h
  · rename_i vs
    obtain ⟨us, rfl, hs, hrep⟩ := rep_tuple hr
    refine .tuple vs us hs fun i c hc => one ?_ (hrep i c hc)
    exact (List.all_eq_true.1 h) c (List.mem_of_getElem? hc)
  · exact one h hr
end
end Go.AM

set_option linter.unusedVariables false
set_option linter.unusedSimpArgs false
namespace Go.AM
open Go.RowKit

section
variable {P : Program} {X : Cx} {st : St} {G : Gh} {w : World} {n : Nat} {ρ : Env} {a : Act}

/-- What follows an operation. -/
def After (X : Cx) (n : Nat) (st' : St) (ρ' : Env) (K : Act → World → Prop) : Prop := ∀ G' w' a', Inv X st' G' w' → EnvRep G' (OwnF X st' G') w' n ρ' a' → K a' w'

theorem wp_lok (hE : EnvRep G (OwnF X st G) w n ρ a) {o : Oper} {d : Option Nat} (hd : o.dst = d) (hn : dstOk n d = true) {p : PV} {st' : St} (h : LOk P X st G w o a p st') {K : Act → World → Prop} {Q : Exit → Act → World → Prop} (hK : After X n st' (Env.put ρ d p) K) : o.wp P a w K Q := by
  obtain ⟨nx, u, w', G', hrun, hans, hI', hla, hr⟩ := h
  subst hd
  have := hK G' w' (a.put o.dst u) hI' ((hla.env hE).put (dst_lt hn) hr)
  unfold Oper.wp
  rw [hrun]
  cases nx <;> simp [ansOf] at hans
  · subst hans; exact this
  · subst hans; exact this

/-- The callee's value, the function value's parts. -/
theorem func_rep {own : Nat → Prop} {v : Value} {g : Nat} {caps : List PV} (h : Rep G own w v (.func g caps)) : ∃ vs : Array Value, v = .func (.func g) #[] vs ∧ vs.size = caps.length ∧ ∀ (i : Nat) (c : PV), caps[i]? = some c → Rep G own w (vs.getD i undef) c := by
  cases h with
  | func _ _ vs hs h => exact ⟨vs, rfl, hs, h⟩

theorem cOp_call {o : Oper} {f : Opd} {xs : List Opd} (h : cOp P o.op = some (.call f xs)) : ∃ fo args ts, o.op = .call { callee := .value fo, args := args, argTypes := ts } ∧ cOpd fo = some f ∧ cOpds args.toList = some xs := by
  have noBin : ∀ {b ts ys}, cBuiltin P b ts ys ≠ some (.call f xs) := by
    intro b ts ys hc
    unfold cBuiltin at hc
    split at hc
    · (repeat' split at hc) <;> first | (cases hc; done) | (obtain ⟨_, _, h⟩ := Option.map_eq_some_iff.1 hc; cases h)
    · (repeat' split at hc) <;> first | (cases hc; done) | (injection hc with hc; cases hc)
    · unfold cAppend at hc
      (repeat' split at hc) <;> first | (cases hc; done) | (injection hc with hc; cases hc)
    · unfold cCopy at hc
      (repeat' split at hc) <;> first | (cases hc; done) | (injection hc with hc; cases hc)
    · obtain ⟨_, _, h⟩ := Option.map_eq_some_iff.1 hc; cases h
    · obtain ⟨_, _, h⟩ := Option.map_eq_some_iff.1 hc; cases h
    · cases hc
  cases ho : o.op with
  | call c =>
    rw [ho] at h
    obtain ⟨callee, args, ts⟩ := c
    simp only [cOp] at h
    split at h
    · rename_i b hb
      exact absurd h noBin
    · rename_i fo
      split at h
      · rename_i f' xs' h1 h2
        injection h with h
        injection h with h3 h4
        subst h3 h4
        exact ⟨fo, args, ts, rfl, h1, h2⟩
      · cases h
    · cases h
  | move x => rw [ho] at h; obtain ⟨_, _, h⟩ := Option.map_eq_some_iff.1 h; cases h
  | assign x => rw [ho] at h; obtain ⟨_, _, h⟩ := Option.map_eq_some_iff.1 h; cases h
  | pick c x y => rw [ho] at h; simp only [cOp] at h; (repeat' split at h) <;> first | (cases h; done) | (injection h with h; cases h)
  | load t x => rw [ho] at h; simp only [cOp] at h; unfold cLoad at h; (repeat' split at h) <;> first | (cases h; done) | (injection h with h; cases h)
  | store t x y => rw [ho] at h; simp only [cOp] at h; unfold cStore at h; (repeat' split at h) <;> first | (cases h; done) | (injection h with h; cases h)
  | alloc t => rw [ho] at h; obtain ⟨_, _, h⟩ := Option.map_eq_some_iff.1 h; cases h
  | box t x => rw [ho] at h; obtain ⟨_, _, h⟩ := Option.map_eq_some_iff.1 h; cases h
  | build t ps => rw [ho] at h; simp only [cOp] at h; unfold cBuild at h; (repeat' split at h) <;> first | (cases h; done) | (obtain ⟨_, _, h⟩ := Option.map_eq_some_iff.1 h; cases h)
  | buildSlice t l ps => rw [ho] at h; simp only [cOp] at h; unfold cBuildSl at h; (repeat' split at h) <;> first | (cases h; done) | (obtain ⟨_, _, h⟩ := Option.map_eq_some_iff.1 h; cases h)
  | fieldAddr s x f => rw [ho] at h; simp only [cOp] at h; unfold cFieldAddr at h; (repeat' split at h) <;> first | (cases h; done) | (injection h with h; cases h)
  | field s x f => rw [ho] at h; simp only [cOp] at h; unfold cField at h; (repeat' split at h) <;> first | (cases h; done) | (injection h with h; cases h)
  | indexAddr t x i => rw [ho] at h; simp only [cOp] at h; unfold cIndexAddr at h; (repeat' split at h) <;> first | (cases h; done) | (injection h with h; cases h)
  | index t x i => rw [ho] at h; simp only [cOp] at h; unfold cIndex at h; (repeat' split at h) <;> first | (cases h; done) | (injection h with h; cases h)
  | slice t x lo hi mx => rw [ho] at h; simp only [cOp] at h; unfold cSlice at h; (repeat' split at h) <;> first | (cases h; done) | (injection h with h; cases h)
  | convert s t x => rw [ho] at h; simp only [cOp] at h; unfold cConv at h; (repeat' split at h) <;> first | (cases h; done) | (injection h with h; cases h)
  | unOp op t x => rw [ho] at h; simp only [cOp] at h; (repeat' split at h) <;> first | (cases h; done) | (obtain ⟨_, _, h⟩ := Option.map_eq_some_iff.1 h; cases h)
  | binOp op t x y t' => rw [ho] at h; simp only [cOp] at h; unfold cBin at h; (repeat' split at h) <;> first | (cases h; done) | (injection h with h; cases h)
  | extract x i => rw [ho] at h; obtain ⟨_, _, h⟩ := Option.map_eq_some_iff.1 h; cases h
  | makeInterface t x => rw [ho] at h; simp only [cOp] at h; (repeat' split at h) <;> first | (cases h; done) | (obtain ⟨_, _, h⟩ := Option.map_eq_some_iff.1 h; cases h)
  | makeFunc fn first caps => rw [ho] at h; simp only [cOp] at h; (repeat' split at h) <;> first | (cases h; done) | (obtain ⟨_, _, h⟩ := Option.map_eq_some_iff.1 h; cases h)
  | makeSlice t l c => rw [ho] at h; simp only [cOp] at h; unfold cMakeSl at h; (repeat' split at h) <;> first | (cases h; done) | (injection h with h; cases h)
  | nilCheck x => rw [ho] at h; obtain ⟨_, _, h⟩ := Option.map_eq_some_iff.1 h; cases h
  | _ => rw [ho] at h; cases h

/-- What stands ready for a call. -/
theorem call_ready (hE : EnvRep G (OwnF X st G) w n ρ a) {o : Oper} {f : Opd} {xs : List Opd} (hc : cOp P o.op = some (.call f xs)) {g : Nat} {caps : List PV} (hf : f.ev ρ = .func g caps) :
    ∃ vals : Array Value, (execOp a.eval o).run P w = (callFunc g vals).run P w ∧ vals.size = (xs.map (Opd.ev ρ) ++ caps).length ∧ ∀ (i : Nat) (c : PV), (xs.map (Opd.ev ρ) ++ caps)[i]? = some c → Rep G (OwnF X st G) w (vals.getD i undef) c := by
  obtain ⟨fo, args, ts, ho, h1, h2⟩ := cOp_call hc
  have hr := opd_rep hE h1
  rw [hf] at hr
  obtain ⟨vs, hv, hs, hrep⟩ := func_rep hr
  obtain ⟨k1, k2⟩ := args_rep (hI := trivial) hE h2 hs hrep
  exact ⟨_, run_callOp ho hv, k1, k2⟩

theorem view_args (hI : Inv X st G w) {live : Bool} {own : Nat → Prop} (ho : ∀ b, own b → OwnF X st G b) (hlv : live = true → ∀ b, own b → X.F b) {xs ys : List PV} (hv : ViewL live st.get xs ys) {vals : Array Value} (hs : vals.size = xs.length) (hr : ∀ (i : Nat) (c : PV), xs[i]? = some c → Rep G (OwnF X st G) w (vals.getD i undef) c) :
    vals.size = ys.length ∧ ∀ (i : Nat) (c : PV), ys[i]? = some c → Rep noG own w (vals.getD i undef) c := by
  refine ⟨by rw [hs, hv.1], fun i c hc => ?_⟩
  obtain ⟨x, hx⟩ := get_some hv.1 hc
  exact view_rep hI ho hlv (hv.2 i x c hx hc) (hr i x hx)

theorem noG_rep {own own' : Nat → Prop} {v : Value} {r : PV} (h : Rep noG own w v r) (ho : ∀ b, own' b → own b) : Rep G own' w v r :=
  h.mono (fun t g L h => by cases h) (Chg.refl (fun _ => False) w) (fun b h => h.elim) (fun b h => .inl (ho b h))

/-- A call that hands nothing of one's own in, or brings nothing but numbers and texts out. -/
theorem wp_call (hI : Inv X st G w) (hE : EnvRep G (OwnF X st G) w n ρ a) {o : Oper} {d : Option Nat} (hd : o.dst = d) (hn : dstOk n d = true) {f : Opd} {xs : List Opd} (hc : cOp P o.op = some (.call f xs)) {g : Nat} {caps : List PV} (hf : f.ev ρ = .func g caps) {args : List PV} {r : PV} (hs : SemCall P g args r)
    (hv : ViewL false st.get (xs.map (Opd.ev ρ) ++ caps) args ∨ (ViewL true st.get (xs.map (Opd.ev ρ) ++ caps) args ∧ scalarR r = true)) {K : Act → World → Prop} {Q : Exit → Act → World → Prop} (hK : ∀ w' a', Inv X st G w' → EnvRep G (OwnF X st G) w' n (Env.put ρ d r) a' → K a' w') : o.wp P a w K Q := by
  obtain ⟨vals, hrun, hsz, hrep⟩ := call_ready hE hc hf
  obtain ⟨⟨fn, c, e1, e2, e3⟩, hsem⟩ := hs
  subst hd
  have fin : ∀ (F : Nat → Prop), (∀ b, F b → b < w.heap.size) → vals.size = args.length → (∀ (i : Nat) (c : PV), args[i]? = some c → Rep noG F w (vals.getD i undef) c) → (∀ (u : Value) (w' : World), Rep noG F w' u r → Rep G (OwnF X st G) w' u r) → o.wp P a w K Q := by
    intro F hF h1 h2 h3
    unfold Oper.wp
    rw [hrun, run_enter e1 e3 e2, Oper.upon_enter]
    refine (hsem F w vals hF h1 h2).mono fun e w' ⟨u, he, hb, hr⟩ => ?_
    subst he
    obtain ⟨k1, k2⟩ := inv_below hI hb
    exact hK w' _ k1 ((k2.env hE).put (dst_lt hn) (h3 u w' hr))
  rcases hv with hv | ⟨hv, hsc⟩
  · obtain ⟨k1, k2⟩ := view_args hI (own := OwnF X st G) (fun _ h => h) (fun h => by cases h) hv hsz hrep
    exact fin (OwnF X st G) (fun b hb => own_lt_size hI hb) k1 k2 (fun u w' hr => noG_rep hr (fun _ h => h))
  · obtain ⟨k1, k2⟩ := view_args hI (own := fun _ => False) (fun _ h => h.elim) (fun _ _ h => h.elim) hv hsz hrep
    exact fin (fun _ => False) (fun b hb => hb.elim) k1 k2 (fun u w' hr => scalar_rep hsc hr)

theorem wp_ext (hI : Inv X st G w) (hE : EnvRep G (OwnF X st G) w n ρ a) {o : Oper} {d : Option Nat} (hd : o.dst = d) (hn : dstOk n d = true) {f : Opd} {xs : List Opd} (hc : cOp P o.op = some (.call f xs)) {g : Nat} {caps : List PV} (hf : f.ev ρ = .func g caps) {args : List PV} {r : PV} (hs : SemExt P g args r)
    (hv : ViewL true st.get (xs.map (Opd.ev ρ) ++ caps) args) (hsc : scalarR r = true) {K : Act → World → Prop} {Q : Exit → Act → World → Prop} (hK : After X n st (Env.put ρ d r) K) : o.wp P a w K Q := by
  obtain ⟨vals, hrun, hsz, hrep⟩ := call_ready hE hc hf
  subst hd
  obtain ⟨k1, k2⟩ := view_args hI (own := fun _ => False) (fun _ h => h.elim) (fun _ _ h => h.elim) hv hsz hrep
  obtain ⟨u, w', e1, e2, e3⟩ := hs (fun _ => False) w vals k1 k2
  unfold Oper.wp
  rw [hrun, e1, Oper.upon_value]
  obtain ⟨m1, m2⟩ := inv_below hI e2
  exact hK G w' _ m1 ((m2.env hE).put (dst_lt hn) (scalar_rep hsc e3))

theorem ownF_join (hI : Inv X st G w) {q τ : List (Nat × Tok)} (hp : Parts st q τ) {st1 : St} {G1 : Gh} {w1 : World} (hI1 : Inv (partCx X st G w q τ) st1 G1 w1) {b : Nat} (h : OwnF X (joinSt st q st1) G1 b) : OwnF (partCx X st G w q τ) st1 G1 b := by
  rcases h with h | ⟨t, k, L, h1, h2, h3, h4⟩
  · exact .inl (.inl h)
  · unfold St.get joinSt at h1
    rw [getA_append] at h1
    split at h1
    · rename_i k' hk
      injection h1 with h1
      subst h1
      refine .inl (.inr ⟨t, k', L, hk, h2, ?_, h4⟩)
      rcases hI1.newg t _ L h3 with h5 | ⟨k2, h5⟩ | h5
      · exact h5
      · rcases (hp t).2 with h6 | h6
        · rw [hk] at h6; cases h6
        · rw [h5] at h6; cases h6
      · have hlt := get_lt hI (parts_q hp hk)
        -- a token of the part that stays is older than the call
        exact absurd hlt (by
          intro hlt
          have hold := hI.toks t k' (parts_q hp hk)
          have : ∃ L0, G t k'.gen = some L0 := by
            cases k' with
            | var cs => obtain ⟨L0, e, _⟩ := hold; exact ⟨L0, e⟩
            | row g sz es lv => obtain ⟨L0, e, _⟩ := hold; exact ⟨L0, e⟩
          obtain ⟨L0, e0⟩ := this
          have := (hI1.old t k'.gen L0 e0).1
          omega)
    · exact .inr ⟨t, k, L, h1, h2, h3, h4⟩

theorem wp_raw (hI : Inv X st G w) (hE : EnvRep G (OwnF X st G) w n ρ a) {o : Oper} {d : Option Nat} (hd : o.dst = d) (hn : dstOk n d = true) {f : Opd} {xs : List Opd} (hc : cOp P o.op = some (.call f xs)) {g : Nat} {caps : List PV} (hf : f.ev ρ = .func g caps) {q τ : List (Nat × Tok)} (hp : Parts st q τ) {r : PV} {st1 : St} (hb : st1.base = st.next)
    (hs : SemRaw P g (xs.map (Opd.ev ρ) ++ caps) (partSt st τ) r st1) {K : Act → World → Prop} {Q : Exit → Act → World → Prop} (hK : After X n (joinSt st q st1) (Env.put ρ d r) K) : o.wp P a w K Q := by
  obtain ⟨vals, hrun, hsz, hrep⟩ := call_ready hE hc hf
  obtain ⟨⟨fn, c, e1, e2, e3⟩, hsem⟩ := hs
  subst hd
  unfold Oper.wp
  rw [hrun, run_enter e1 e3 e2, Oper.upon_enter]
  refine (hsem (partCx X st G w q τ) G w vals (inv_part hI hp) hsz (fun i c hc => by rw [ownF_part hp]; exact hrep i c hc)).mono fun e w' ⟨u, he, G', hI1, hr⟩ => ?_
  subst he
  obtain ⟨k1, k2⟩ := inv_join hI hp hb hI1
  refine hK G' w' _ k1 ((k2.env hE).put (dst_lt hn) ?_)
  exact hr.mono (fun _ _ _ h => h) (Chg.refl (fun _ => False) w') (fun b h => h.elim) (fun b h => .inl (ownF_join hI hp hI1 h))
end
end Go.AM

set_option linter.unusedVariables false
set_option linter.unusedSimpArgs false
namespace Go.AM
open Go.RowKit

/-- What an operation of a drawn region answers. -/
def YSem (P : Program) (st : St) (o : POp) (ρ : Env) (p : PV) : Prop :=
  (gd (getA · ρ) o.guard = some false ∧ p = .tuple []) ∨
  (gd (getA · ρ) o.guard = some true ∧ (quiet st.get (Opd.ev ρ) o.op = some p ∨ ∃ f xs g caps args, o.op = .call f xs ∧ f.ev ρ = .func g caps ∧ SemCall P g args p ∧
    (ViewL false st.get (xs.map (Opd.ev ρ) ++ caps) args ∨ (ViewL true st.get (xs.map (Opd.ev ρ) ++ caps) args ∧ scalarR p = true))))
def LexD (P : Program) (st : St) : List POp → Env → Env → Prop
  | [], ρ, ρ' => ρ' = ρ
  | o :: l, ρ, ρ' => ∃ p, YSem P st o ρ p ∧ LexD P st l (Env.put ρ o.dst p) ρ'

theorem ev_congr {ρ ρ' : Env} {x : Opd} (h : ∀ t ∈ x.tmps, getA t ρ = getA t ρ') : x.ev ρ = x.ev ρ' := by
  cases x with
  | t n => simp only [Opd.ev, Env.at]; rw [h n (by simp [Opd.tmps])]
  | c p => rfl
theorem evs_congr {ρ ρ' : Env} {xs : List Opd} (h : ∀ t ∈ xs.flatMap Opd.tmps, getA t ρ = getA t ρ') : xs.map (Opd.ev ρ) = xs.map (Opd.ev ρ') := by
  apply List.map_congr_left
  intro x hx
  exact ev_congr fun t ht => h t (List.mem_flatMap.2 ⟨x, hx, ht⟩)
theorem opt_congr {ρ ρ' : Env} {x : Option Opd} (h : ∀ t ∈ optTmps x, getA t ρ = getA t ρ') : x.map (Opd.ev ρ) = x.map (Opd.ev ρ') := by
  cases x with
  | none => rfl
  | some x => simp only [Option.map_some]; rw [ev_congr h]
theorem quiet_congr {look : Nat → Option Tok} {ρ ρ' : Env} {pi : PI} (h : ∀ t ∈ pi.tmps, getA t ρ = getA t ρ') : quiet look (Opd.ev ρ) pi = quiet look (Opd.ev ρ') pi := by
  cases pi with
  | move x => simp only [quiet]; rw [ev_congr h]
  | pick c a b =>
    simp only [PI.tmps, List.mem_append] at h
    simp only [quiet]
    rw [ev_congr (fun t ht => h t (.inl ht)), ev_congr (fun t ht => h t (.inr (.inl ht))), ev_congr (fun t ht => h t (.inr (.inr ht)))]
  | load n agg a => simp only [quiet]; rw [ev_congr h]
  | build zero ps =>
    simp only [quiet]
    have : (ps.map fun p => (p.1, p.2.1, Opd.ev ρ p.2.2)) = ps.map fun p => (p.1, p.2.1, Opd.ev ρ' p.2.2) := by
      apply List.map_congr_left
      intro p hp
      rw [ev_congr fun t ht => h t (List.mem_flatMap.2 ⟨p, hp, ht⟩)]
    rw [this]
  | buildSl sz zero ps =>
    simp only [quiet]
    have : (ps.map fun p => (p.1, Opd.ev ρ p.2)) = ps.map fun p => (p.1, Opd.ev ρ' p.2) := by
      apply List.map_congr_left
      intro p hp
      rw [ev_congr fun t ht => h t (List.mem_flatMap.2 ⟨p, hp, ht⟩)]
    rw [this]
  | fieldAddr x d => simp only [quiet]; rw [ev_congr h]
  | field x off n agg => simp only [quiet]; rw [ev_congr h]
  | indexA x y l s =>
    simp only [PI.tmps, List.mem_append] at h
    simp only [quiet]; rw [ev_congr (fun t ht => h t (.inl ht)), ev_congr (fun t ht => h t (.inr ht))]
  | indexS x y s =>
    simp only [PI.tmps, List.mem_append] at h
    simp only [quiet]; rw [ev_congr (fun t ht => h t (.inl ht)), ev_congr (fun t ht => h t (.inr ht))]
  | indexStr x y =>
    simp only [PI.tmps, List.mem_append] at h
    simp only [quiet]; rw [ev_congr (fun t ht => h t (.inl ht)), ev_congr (fun t ht => h t (.inr ht))]
  | sliceStr x lo hi =>
    simp only [PI.tmps, List.mem_append] at h
    simp only [quiet]; rw [ev_congr (fun t ht => h t (.inl ht)), opt_congr (fun t ht => h t (.inr (.inl ht))), opt_congr (fun t ht => h t (.inr (.inr ht)))]
  | sliceSl x s lo hi mx =>
    simp only [PI.tmps, List.mem_append] at h
    simp only [quiet]; rw [ev_congr (fun t ht => h t (.inl ht)), opt_congr (fun t ht => h t (.inr (.inl ht))), opt_congr (fun t ht => h t (.inr (.inr (.inl ht)))), opt_congr (fun t ht => h t (.inr (.inr (.inr ht))))]
  | sliceArr x l s lo hi mx =>
    simp only [PI.tmps, List.mem_append] at h
    simp only [quiet]; rw [ev_congr (fun t ht => h t (.inl ht)), opt_congr (fun t ht => h t (.inr (.inl ht))), opt_congr (fun t ht => h t (.inr (.inr (.inl ht)))), opt_congr (fun t ht => h t (.inr (.inr (.inr ht))))]
  | conv k x => simp only [quiet]; rw [ev_congr h]
  | toBytes x => simp only [quiet]; rw [ev_congr h]
  | toStr x => simp only [quiet]; rw [ev_congr h]
  | textId x => simp only [quiet]; rw [ev_congr h]
  | neg x => simp only [quiet]; rw [ev_congr h]
  | not x => simp only [quiet]; rw [ev_congr h]
  | bin op x y =>
    simp only [PI.tmps, List.mem_append] at h
    simp only [quiet]; rw [ev_congr (fun t ht => h t (.inl ht)), ev_congr (fun t ht => h t (.inr ht))]
  | eqNil neq k x => simp only [quiet]; rw [ev_congr h]
  | eqBool neq x y =>
    simp only [PI.tmps, List.mem_append] at h
    simp only [quiet]; rw [ev_congr (fun t ht => h t (.inl ht)), ev_congr (fun t ht => h t (.inr ht))]
  | eqAgg neq x y =>
    simp only [PI.tmps, List.mem_append] at h
    simp only [quiet]; rw [ev_congr (fun t ht => h t (.inl ht)), ev_congr (fun t ht => h t (.inr ht))]
  | extract x i => simp only [quiet]; rw [ev_congr h]
  | mkIface ty x => simp only [quiet]; rw [ev_congr h]
  | mkFunc f caps => simp only [quiet]; rw [evs_congr h]
  | nilCheck x => simp only [quiet]; rw [ev_congr h]
  | len txt x => simp only [quiet]; rw [ev_congr h]
  | cap x => simp only [quiet]; rw [ev_congr h]
  | minmax mx xs => simp only [quiet]; rw [evs_congr h]
  | store n a x => rfl
  | alloc cs => rfl
  | box x => rfl
  | makeSl sz z b l c => rfl
  | append sz b z s x => rfl
  | copy sz d s => rfl
  | call f xs => rfl
theorem gd_congr {ρ ρ' : Env} {g : Option (Nat × Bool)} (h : ∀ t w, g = some (t, w) → getA t ρ = getA t ρ') : gd (getA · ρ) g = gd (getA · ρ') g := by
  cases g with
  | none => rfl
  | some x => obtain ⟨t, w⟩ := x; simp only [gd]; rw [h t w rfl]

section
variable {P : Program} {st : St}
theorem ysem_congr {ρ ρ' : Env} {o : POp} {p : PV} (h : ∀ t ∈ o.tmps, getA t ρ = getA t ρ') (hy : YSem P st o ρ p) : YSem P st o ρ' p := by
  have hg : gd (getA · ρ) o.guard = gd (getA · ρ') o.guard := gd_congr fun t w e => h t (by simp [POp.tmps, e])
  have ho : ∀ t ∈ o.op.tmps, getA t ρ = getA t ρ' := fun t ht => h t (by simp [POp.tmps, ht])
  rcases hy with ⟨h1, h2⟩ | ⟨h1, h2⟩
  · exact .inl ⟨by rw [← hg]; exact h1, h2⟩
  · refine .inr ⟨by rw [← hg]; exact h1, ?_⟩
    rcases h2 with h2 | ⟨f, xs, g, caps, args, e1, e2, e3, e4⟩
    · exact .inl (by rw [← quiet_congr ho]; exact h2)
    · rw [e1] at ho
      simp only [PI.tmps, List.mem_append] at ho
      have h3 : xs.map (Opd.ev ρ') = xs.map (Opd.ev ρ) := (evs_congr fun t ht => (ho t (.inr ht))).symm
      exact .inr ⟨f, xs, g, caps, args, e1, by rw [← ev_congr (fun t ht => ho t (.inl ht))]; exact e2, e3, by rw [h3]; exact e4⟩

def EqA (ρ ρ' : Env) : Prop := ∀ t, getA t ρ = getA t ρ'
theorem EqA.put {ρ ρ' : Env} (h : EqA ρ ρ') (d : Option Nat) (p : PV) : EqA (Env.put ρ d p) (Env.put ρ' d p) := by
  intro t
  cases d with
  | none => exact h t
  | some d => simp only [Env.put, getA_putA]; rw [h t]
theorem put_comm {ρ : Env} {d e : Option Nat} (h : ∀ x, d = some x → e ≠ some x) (p q : PV) : EqA (Env.put (Env.put ρ d p) e q) (Env.put (Env.put ρ e q) d p) := by
  intro t
  cases d with
  | none => rfl
  | some d =>
    cases e with
    | none => rfl
    | some e =>
      have hne : d ≠ e := fun he => h d rfl (by rw [he])
      simp only [Env.put, getA_putA]
      by_cases h1 : e = t
      · by_cases h2 : d = t
        · exact absurd (h2.trans h1.symm) hne
        · rw [if_pos h1, if_neg h2, if_pos h1]
      · rw [if_neg h1, if_neg h1]
theorem put_other {ρ : Env} {d : Option Nat} {p : PV} {t : Nat} (h : d ≠ some t) : getA t (Env.put ρ d p) = getA t ρ := by
  cases d with
  | none => rfl
  | some d =>
    simp only [Env.put, getA_putA]
    rw [if_neg (fun e => h (by rw [e]))]

/-- Whatever order is picked from here on. -/
def anyD (P : Program) (st : St) (ops : Array Oper) (L : List POp) (ρ' : Env) : Nat → Array Bool → Env → Prop
  | 0, listed, ρ => Region.ready .any ops listed = [] ∧ EqA ρ ρ'
  | fuel + 1, listed, ρ => (Region.ready .any ops listed = [] → EqA ρ ρ') ∧ ∀ i ∈ Region.ready .any ops listed, ∃ o p, L[i]? = some o ∧ YSem P st o ρ p ∧ anyD P st ops L ρ' fuel (listed.setIfInBounds i true) (Env.put ρ o.dst p)
theorem anyD_eqv {ops : Array Oper} {L : List POp} {ρ' : Env} : ∀ (fuel : Nat) (listed : Array Bool) (ρ ρ1 : Env), EqA ρ ρ1 → anyD P st ops L ρ' fuel listed ρ → anyD P st ops L ρ' fuel listed ρ1
  | 0, listed, ρ, ρ1, he, h => ⟨h.1, fun t => (he t).symm.trans (h.2 t)⟩
  | fuel + 1, listed, ρ, ρ1, he, h => ⟨fun hr t => (he t).symm.trans (h.1 hr t), fun i hi => by
      obtain ⟨o, p, h1, h2, h3⟩ := h.2 i hi
      exact ⟨o, p, h1, ysem_congr (fun t _ => he t) h2, anyD_eqv fuel _ _ _ (he.put _ _) h3⟩⟩

theorem tmpsOk_spec {ops : Array Oper} : ∀ {lo : List Oper} {l : List POp}, tmpsOk ops lo l = true → lo.length = l.length ∧ ∀ (j : Nat) (O : Oper) (o : POp), lo[j]? = some O → l[j]? = some o → (∀ t ∈ o.tmps, t ∈ O.looksAt ops) ∧ o.dst = O.dst
  | [], [], _ => ⟨rfl, fun j O o h => by simp at h⟩
  | [], _ :: _, h => by cases h
  | _ :: _, [], h => by cases h
  | O :: lo, o :: l, h => by
    simp only [tmpsOk, Bool.and_eq_true, List.all_eq_true, decide_eq_true_eq] at h
    obtain ⟨⟨h1, h2⟩, h3⟩ := h
    obtain ⟨k1, k2⟩ := tmpsOk_spec h3
    refine ⟨by simp [k1], fun j O' o' hj hj' => ?_⟩
    cases j with
    | zero =>
      simp at hj hj'
      subst hj hj'
      exact ⟨fun t ht => by simpa using h1 t ht, h2⟩
    | succ j => exact k2 j O' o' (by simpa using hj) (by simpa using hj')

theorem anyD_first {ops : Array Oper} {L : List POp} {ρ' : Env} (hok : tmpsOk ops ops.toList L = true) {i : Nat} {oi : POp} {Oi : Oper} {v : PV} (hi : L[i]? = some oi) (hiO : ops[i]? = some Oi) :
    ∀ (fuel : Nat) (listed : Array Bool) (ρ : Env),
      (∀ j Oj, ops[j]? = some Oj → j ≠ i → listed.getD j true = false → (∀ e ∈ Oj.after, Region.binds .any e = true → e.on ≠ i) → Oi.apart ops Oj = true) →
      i ∈ Region.ready .any ops listed → YSem P st oi ρ v → anyD P st ops L ρ' fuel (listed.setIfInBounds i true) (Env.put ρ oi.dst v) → anyD P st ops L ρ' (fuel + 1) listed ρ := by
  intro fuel
  induction fuel with
  | zero =>
    intro listed ρ _ hr hy H
    refine ⟨fun h => (by rw [h] at hr; cases hr), fun j hj => ?_⟩
    by_cases hji : j = i
    · subst hji; exact ⟨oi, v, hi, hy, H⟩
    · have := ready_mono hj hji
      rw [H.1] at this
      cases this
  | succ fuel ih =>
    intro listed ρ hfree hr hy H
    refine ⟨fun h => (by rw [h] at hr; cases hr), fun j hj => ?_⟩
    by_cases hji : j = i
    · subst hji; exact ⟨oi, v, hi, hy, H⟩
    · obtain ⟨oj, u, hLj, hyj, hrest⟩ := H.2 j (ready_mono hj hji)
      obtain ⟨hjun, Oj, hOj, hall⟩ := mem_ready.1 hj
      have hnot : ∀ e ∈ Oj.after, Region.binds .any e = true → e.on ≠ i := fun e he hb heq => by
        have h1 := hall e he hb
        have h0 := (mem_ready.1 hr).1
        rw [heq] at h1
        rcases Nat.lt_or_ge i listed.size with h' | h'
        · simp [h'] at h0 h1; rw [h0] at h1; cases h1
        · simp [Array.getElem?_eq_none h'] at h1
      have hap := hfree j Oj hOj hji hjun hnot
      obtain ⟨a1, a2, a3⟩ := Oper.apart_spec hap
      obtain ⟨_, hk⟩ := tmpsOk_spec hok
      obtain ⟨ti, di⟩ := hk i Oi oi (by simpa using hiO) hi
      obtain ⟨tj, dj⟩ := hk j Oj oj (by simpa using hOj) hLj
      have hyj' : YSem P st oj ρ u := ysem_congr (fun t ht => put_other (fun e => a1 t (by rw [← di]; exact e) (tj t ht))) hyj
      have hyi' : YSem P st oi (Env.put ρ oj.dst u) v := ysem_congr (fun t ht => (put_other (fun e => a3 t (by rw [← dj]; exact e) (ti t ht))).symm) hy
      refine ⟨oj, u, hLj, hyj', ih (listed.setIfInBounds j true) (Env.put ρ oj.dst u) (fun k Ok hk hki hun hno => ?_) (ready_mono hr (Ne.symm hji)) hyi' ?_⟩
      · refine hfree k Ok hk hki ?_ hno
        by_cases hjk : j = k
        · subst hjk; exact hjun
        · rw [getD_set_ne true hjk] at hun; exact hun
      · rw [Array.setIfInBounds_comm _ _ hji]
        refine anyD_eqv fuel _ _ _ (put_comm (fun x hx => ?_) v u) hrest
        rw [dj]
        exact a2 x (by rw [← di]; exact hx)

theorem anyD_lex {ops : Array Oper} {L : List POp} {ρ' : Env} (hok : tmpsOk ops ops.toList L = true) : ∀ (l : List Oper) (pl : List POp) (k : Nat) (listed : Array Bool) (ρ : Env), l.length = pl.length → (∀ j, l[j]? = ops[k + j]?) → (∀ j, pl[j]? = L[k + j]?) →
    Region.lexFrom .any ops l.length k listed = true → LexD P st pl ρ ρ' → anyD P st ops L ρ' l.length listed ρ
  | [], [], _, _, _, _, _, _, hB, h => ⟨by simpa [Region.lexFrom] using hB, fun t => by rw [show ρ' = _ from h]⟩
  | [], _ :: _, _, _, _, hl, _, _, _, _ => by cases hl
  | _ :: _, [], _, _, _, hl, _, _, _, _ => by cases hl
  | O :: l, o :: pl, k, listed, ρ, hlen, hl, hp, hB, h => by
    have h0 : ops[k]? = some O := by simpa using (hl 0).symm
    have h1 : L[k]? = some o := by simpa using (hp 0).symm
    simp only [List.length_cons, Region.lexFrom, Bool.and_eq_true] at hB
    obtain ⟨⟨hr, hf⟩, hB'⟩ := hB
    obtain ⟨p, hy, hrest⟩ := h
    exact anyD_first hok h1 h0 l.length listed ρ (Region.free_spec h0 hf) (by simpa using hr) hy
      (anyD_lex hok l pl (k + 1) _ _ (by simpa using hlen) (fun j => by have := hl (j + 1); simpa [Nat.add_assoc, Nat.add_comm 1 j] using this) (fun j => by have := hp (j + 1); simpa [Nat.add_assoc, Nat.add_comm 1 j] using this) hB' hrest)
end

section
variable {P : Program} {X : Cx} {st : St} {G : Gh} {n : Nat}
theorem cOps_get {ops : Array Oper} : ∀ {lo : List Oper} {l : List POp}, cOps P ops n lo = some l → lo.length = l.length ∧ ∀ (j : Nat) (O : Oper) (o : POp), lo[j]? = some O → l[j]? = some o → cPOp P ops n O = some o
  | [], l, h => by injection h with h; subst h; exact ⟨rfl, fun j O o h => by simp at h⟩
  | O :: lo, l, h => by
    simp only [cOps] at h
    split at h
    · rename_i p ps h1 h2
      injection h with h
      subst h
      obtain ⟨k1, k2⟩ := cOps_get h2
      refine ⟨by simp [k1], fun j O' o' hj hj' => ?_⟩
      cases j with
      | zero => simp at hj hj'; subst hj hj'; exact h1
      | succ j => exact k2 j O' o' (by simpa using hj) (by simpa using hj')
    · cases h
theorem cPOp_spec {ops : Array Oper} {O : Oper} {o : POp} (h : cPOp P ops n O = some o) : cGuard ops O.guard = some o.guard ∧ cOp P O.op = some o.op ∧ o.dst = O.dst ∧ dstOk n O.dst = true := by
  unfold cPOp at h
  split at h
  · rename_i g pi h1 h2
    split at h
    · rename_i h3
      injection h with h
      subst h
      exact ⟨h1, h2, rfl, h3⟩
    · cases h
  · cases h

theorem eqA_env {own : Nat → Prop} {w : World} {ρ ρ' : Env} {a : Act} (h : EnvRep G own w n ρ a) (he : EqA ρ ρ') : EnvRep G own w n ρ' a := ⟨h.defers, h.size, fun t p hp => h.reps t p (by rw [he t]; exact hp)⟩

/-- One operation of a drawn region. -/
theorem wpOp_ysem {ops : Array Oper} {w : World} {ρ : Env} {a : Act} (hI : Inv X st G w) (hE : EnvRep G (OwnF X st G) w n ρ a) {i : Nat} {O : Oper} {o : POp} (hO : ops[i]? = some O) (hc : cPOp P ops n O = some o) {p : PV} (hy : YSem P st o ρ p) {K : Act → World → Prop} {Q : Exit → Act → World → Prop}
    (hK : ∀ w' a', Inv X st G w' → EnvRep G (OwnF X st G) w' n (Env.put ρ o.dst p) a' → K a' w') : wpOp P ops Q i K a w := by
  obtain ⟨h1, h2, h3, h4⟩ := cPOp_spec hc
  unfold wpOp
  simp only [hO]
  rcases hy with ⟨hg, rfl⟩ | ⟨hg, hh⟩
  · rw [gd_wanted hE h1 hg]
    simp only [Bool.false_eq_true, if_false]
    rw [h3] at hK
    exact hK w _ hI (hE.put (dst_lt h4) undef_rep)
  · rw [gd_wanted hE h1 hg]
    simp only [if_true]
    refine .inl ?_
    rcases hh with hq | ⟨f, xs, g, caps, args, e1, e2, e3, e4⟩
    · obtain ⟨u, w', r1, r2, r3⟩ := (step_sound hI hE h2).1 p hq
      obtain ⟨m1, m2⟩ := inv_below hI r2
      unfold Oper.wp
      rw [r1, Oper.upon_value]
      rw [h3] at hK
      exact hK w' _ m1 ((m2.env hE).put (dst_lt h4) r3)
    · rw [e1] at h2
      exact wp_call hI hE h3.symm (by rw [h3]; exact h4) h2 e2 e3 e4 hK

theorem wpAny_of_anyD {ops : Array Oper} {L : List POp} {ρ' : Env} (hc : cOps P ops n ops.toList = some L) {Q : Exit → Act → World → Prop} (hQ : ∀ a w ρ, Inv X st G w → EnvRep G (OwnF X st G) w n ρ a → EqA ρ ρ' → Q .normal a w) :
    ∀ (fuel : Nat) (listed : Array Bool) (ρ : Env) (a : Act) (w : World), Inv X st G w → EnvRep G (OwnF X st G) w n ρ a → anyD P st ops L ρ' fuel listed ρ → wpAny P .any ops Q fuel listed a w
  | 0, _, ρ, a, w, hI, hE, h => ⟨h.1, hQ a w ρ hI hE h.2⟩
  | fuel + 1, listed, ρ, a, w, hI, hE, h => ⟨fun h0 => hQ a w ρ hI hE (h.1 h0), fun i hi => by
      obtain ⟨o, p, h1, h2, h3⟩ := h.2 i hi
      obtain ⟨_, O, hO, _⟩ := mem_ready.1 hi
      exact wpOp_ysem hI hE hO ((cOps_get hc).2 i O o (by simpa using hO) h1) h2 (fun w' a' hI' hE' => wpAny_of_anyD hc hQ fuel _ _ a' w' hI' hE' h3)⟩

theorem wp_drawn {id : Nat} {ops : Array Oper} {L : List POp} {w : World} {ρ ρ' : Env} {a : Act} {Q : Exit → Act → World → Prop} (hm : P.follows .mixedOrders = true) (hB : Region.lexB .any ops = true) (hok : tmpsOk ops ops.toList L = true) (hc : cOps P ops n ops.toList = some L)
    (hI : Inv X st G w) (hE : EnvRep G (OwnF X st G) w n ρ a) (hl : LexD P st L ρ ρ') (hQ : ∀ a w, Inv X st G w → EnvRep G (OwnF X st G) w n ρ' a → Q .normal a w) : (Code.region id ops true).wp P Q a w := by
  simp only [Region.lexB, Bool.and_eq_true] at hB
  have hd : Below w.heap.size w { w with drawn := w.drawn + 1 } := ⟨rfl, rfl, rfl, Nat.le_refl _, fun _ _ => rfl⟩
  obtain ⟨m1, m2⟩ := inv_below hI hd
  refine wp_region_any hm ?_
  have := anyD_lex (P := P) (st := st) hok ops.toList L 0 (Array.replicate ops.size false) ρ (by simpa using (tmpsOk_spec hok).1) (by simp) (by simp) (by simpa using hB.2) hl
  refine wpAny_of_anyD hc (fun a w ρ1 h1 h2 h3 => hQ a w h1 (eqA_env h2 h3)) _ _ ρ a _ m1 (m2.env hE) ?_
  simpa using this
end

/-! ### One loud operation among others that look at no memory -/
theorem loud_congr {st : St} {ρ ρ' : Env} {pi : PI} (h : ∀ t ∈ pi.tmps, getA t ρ = getA t ρ') : loud st (Opd.ev ρ) pi = loud st (Opd.ev ρ') pi := by
  cases pi with
  | store n a x =>
    simp only [PI.tmps, List.mem_append] at h
    simp only [loud]; rw [ev_congr (fun t ht => h t (.inl ht)), ev_congr (fun t ht => h t (.inr ht))]
  | alloc cs => rfl
  | box x => simp only [loud]; rw [ev_congr h]
  | buildSl sz zero ps =>
    simp only [loud]
    have : (ps.map fun p => (p.1, Opd.ev ρ p.2)) = ps.map fun p => (p.1, Opd.ev ρ' p.2) := by
      apply List.map_congr_left
      intro p hp
      rw [ev_congr fun t ht => h t (List.mem_flatMap.2 ⟨p, hp, ht⟩)]
    rw [this]
  | makeSl sz z b l c =>
    simp only [PI.tmps, List.mem_append] at h
    simp only [loud]; rw [ev_congr (fun t ht => h t (.inl ht)), ev_congr (fun t ht => h t (.inr ht))]
  | append sz b z s x =>
    simp only [PI.tmps, List.mem_append] at h
    simp only [loud]; rw [ev_congr (fun t ht => h t (.inl ht)), ev_congr (fun t ht => h t (.inr ht))]
  | copy sz d s =>
    simp only [PI.tmps, List.mem_append] at h
    simp only [loud]; rw [ev_congr (fun t ht => h t (.inl ht)), ev_congr (fun t ht => h t (.inr ht))]
  | toBytes x => simp only [loud]; rw [ev_congr h]
  | _ => rfl
def LSem (P : Program) (st : St) (o : POp) (ρ : Env) (p : PV) (st1 : St) : Prop :=
  gd (getA · ρ) o.guard = some true ∧ (loud st (Opd.ev ρ) o.op = some (p, st1) ∨ ∃ f xs g caps q τ st2, o.op = .call f xs ∧ f.ev ρ = .func g caps ∧ Parts st q τ ∧ st2.base = st.next ∧ SemRaw P g (xs.map (Opd.ev ρ) ++ caps) (partSt st τ) p st2 ∧ st1 = joinSt st q st2)
def StepM (P : Program) (m : Nat) (A B : St) (k : Nat) (o : POp) (ρ : Env) (st : St) (p : PV) (st1 : St) : Prop :=
  (k ≠ m ∧ st1 = st ∧ (st = A ∨ st = B) ∧ YSem P A o ρ p ∧ YSem P B o ρ p) ∨ (k = m ∧ st = A ∧ st1 = B ∧ LSem P A o ρ p B)
def LexM (P : Program) (m : Nat) (A B : St) : Nat → List POp → Env → St → Env → St → Prop
  | k, [], ρ, st, ρ', st' => ρ' = ρ ∧ st' = st
  | k, o :: l, ρ, st, ρ', st' => ∃ p st1, StepM P m A B k o ρ st p st1 ∧ LexM P m A B (k + 1) l (Env.put ρ o.dst p) st1 ρ' st'

theorem stepM_congr {P : Program} {m k : Nat} {A B : St} {ρ ρ' : Env} {st : St} {o : POp} {p : PV} {st1 : St} (h : ∀ t ∈ o.tmps, getA t ρ = getA t ρ') (hy : StepM P m A B k o ρ st p st1) : StepM P m A B k o ρ' st p st1 := by
  have hg : gd (getA · ρ) o.guard = gd (getA · ρ') o.guard := gd_congr fun t w e => h t (by simp [POp.tmps, e])
  have ho : ∀ t ∈ o.op.tmps, getA t ρ = getA t ρ' := fun t ht => h t (by simp [POp.tmps, ht])
  rcases hy with ⟨hk, hs, hab, hy, hz⟩ | ⟨hk, hA, hB, h1, h2⟩
  · exact .inl ⟨hk, hs, hab, ysem_congr h hy, ysem_congr h hz⟩
  · refine .inr ⟨hk, hA, hB, by rw [← hg]; exact h1, ?_⟩
    rcases h2 with h2 | ⟨f, xs, g, caps, q, τ, st2, e1, e2, e3, e4, e5, e6⟩
    · exact .inl (by rw [← loud_congr ho]; exact h2)
    · rw [e1] at ho
      simp only [PI.tmps, List.mem_append] at ho
      have h3 : xs.map (Opd.ev ρ') = xs.map (Opd.ev ρ) := (evs_congr fun t ht => (ho t (.inr ht))).symm
      exact .inr ⟨f, xs, g, caps, q, τ, st2, e1, by rw [← ev_congr (fun t ht => ho t (.inl ht))]; exact e2, e3, e4, by rw [h3]; exact e5, e6⟩
/-- Two operations, one of which is not the loud one, in either order. -/
theorem stepM_swap {P : Program} {m i j : Nat} {A B : St} (hij : i ≠ j) {oi oj : POp} {ρ ρ1 : Env} {st sti stij : St} {v u : PV} (hi : StepM P m A B i oi ρ st v sti) (hj : StepM P m A B j oj ρ1 sti u stij) :
    ∃ stj, StepM P m A B j oj ρ1 st u stj ∧ StepM P m A B i oi ρ stj v stij := by
  rcases hi with ⟨h1, rfl, h2, h3⟩ | ⟨h1, rfl, rfl, h2⟩
  · rcases hj with ⟨k1, rfl, k2, k3⟩ | ⟨k1, rfl, rfl, k2⟩
    · exact ⟨_, .inl ⟨k1, rfl, k2, k3⟩, .inl ⟨h1, rfl, h2, h3⟩⟩
    · exact ⟨stij, .inr ⟨k1, rfl, rfl, k2⟩, .inl ⟨h1, rfl, .inr rfl, h3⟩⟩
  · rcases hj with ⟨k1, rfl, k2, k3⟩ | ⟨k1, _, _, k2⟩
    · exact ⟨st, .inl ⟨k1, rfl, .inl rfl, k3⟩, .inr ⟨h1, rfl, rfl, h2⟩⟩
    · exact absurd (h1.trans k1.symm) hij

def anyM (P : Program) (m : Nat) (A B : St) (ops : Array Oper) (L : List POp) (ρ' : Env) (st' : St) : Nat → Array Bool → Env → St → Prop
  | 0, listed, ρ, st => Region.ready .any ops listed = [] ∧ EqA ρ ρ' ∧ st = st'
  | fuel + 1, listed, ρ, st => (Region.ready .any ops listed = [] → EqA ρ ρ' ∧ st = st') ∧ ∀ i ∈ Region.ready .any ops listed, ∃ o p st1, L[i]? = some o ∧ StepM P m A B i o ρ st p st1 ∧ anyM P m A B ops L ρ' st' fuel (listed.setIfInBounds i true) (Env.put ρ o.dst p) st1
section
variable {P : Program} {m : Nat} {A B : St} {ops : Array Oper} {L : List POp} {ρ' : Env} {st' : St}
theorem anyM_eqv : ∀ (fuel : Nat) (listed : Array Bool) (ρ ρ1 : Env) (st : St), EqA ρ ρ1 → anyM P m A B ops L ρ' st' fuel listed ρ st → anyM P m A B ops L ρ' st' fuel listed ρ1 st
  | 0, listed, ρ, ρ1, st, he, h => ⟨h.1, fun t => (he t).symm.trans (h.2.1 t), h.2.2⟩
  | fuel + 1, listed, ρ, ρ1, st, he, h => ⟨fun hr => ⟨fun t => (he t).symm.trans ((h.1 hr).1 t), (h.1 hr).2⟩, fun i hi => by
      obtain ⟨o, p, st1, h1, h2, h3⟩ := h.2 i hi
      exact ⟨o, p, st1, h1, stepM_congr (fun t _ => he t) h2, anyM_eqv fuel _ _ _ _ (he.put _ _) h3⟩⟩
theorem anyM_first (hok : tmpsOk ops ops.toList L = true) {i : Nat} {oi : POp} {Oi : Oper} {v : PV} (hi : L[i]? = some oi) (hiO : ops[i]? = some Oi) :
    ∀ (fuel : Nat) (listed : Array Bool) (ρ : Env) (st st1 : St),
      (∀ j Oj, ops[j]? = some Oj → j ≠ i → listed.getD j true = false → (∀ e ∈ Oj.after, Region.binds .any e = true → e.on ≠ i) → Oi.apart ops Oj = true) →
      i ∈ Region.ready .any ops listed → StepM P m A B i oi ρ st v st1 → anyM P m A B ops L ρ' st' fuel (listed.setIfInBounds i true) (Env.put ρ oi.dst v) st1 → anyM P m A B ops L ρ' st' (fuel + 1) listed ρ st := by
  intro fuel
  induction fuel with
  | zero =>
    intro listed ρ st st1 _ hr hy H
    refine ⟨fun h => (by rw [h] at hr; cases hr), fun j hj => ?_⟩
    by_cases hji : j = i
    · subst hji; exact ⟨oi, v, st1, hi, hy, H⟩
    · have := ready_mono hj hji
      rw [H.1] at this
      cases this
  | succ fuel ih =>
    intro listed ρ st st1 hfree hr hy H
    refine ⟨fun h => (by rw [h] at hr; cases hr), fun j hj => ?_⟩
    by_cases hji : j = i
    · subst hji; exact ⟨oi, v, st1, hi, hy, H⟩
    · obtain ⟨oj, u, st2, hLj, hyj, hrest⟩ := H.2 j (ready_mono hj hji)
      obtain ⟨hjun, Oj, hOj, hall⟩ := mem_ready.1 hj
      have hnot : ∀ e ∈ Oj.after, Region.binds .any e = true → e.on ≠ i := fun e he hb heq => by
        have h1 := hall e he hb
        have h0 := (mem_ready.1 hr).1
        rw [heq] at h1
        rcases Nat.lt_or_ge i listed.size with h' | h'
        · simp [h'] at h0 h1; rw [h0] at h1; cases h1
        · simp [Array.getElem?_eq_none h'] at h1
      have hap := hfree j Oj hOj hji hjun hnot
      obtain ⟨a1, a2, a3⟩ := Oper.apart_spec hap
      obtain ⟨_, hk⟩ := tmpsOk_spec hok
      obtain ⟨ti, di⟩ := hk i Oi oi (by simpa using hiO) hi
      obtain ⟨tj, dj⟩ := hk j Oj oj (by simpa using hOj) hLj
      obtain ⟨stj, hyj0, hyi0⟩ := stepM_swap (Ne.symm hji) hy hyj
      have hyj' : StepM P m A B j oj ρ st u stj := stepM_congr (fun t ht => put_other (fun e => a1 t (by rw [← di]; exact e) (tj t ht))) hyj0
      have hyi' : StepM P m A B i oi (Env.put ρ oj.dst u) stj v st2 := stepM_congr (fun t ht => (put_other (fun e => a3 t (by rw [← dj]; exact e) (ti t ht))).symm) hyi0
      refine ⟨oj, u, stj, hLj, hyj', ih (listed.setIfInBounds j true) (Env.put ρ oj.dst u) stj st2 (fun k Ok hk hki hun hno => ?_) (ready_mono hr (Ne.symm hji)) hyi' ?_⟩
      · refine hfree k Ok hk hki ?_ hno
        by_cases hjk : j = k
        · subst hjk; exact hjun
        · rw [getD_set_ne true hjk] at hun; exact hun
      · rw [Array.setIfInBounds_comm _ _ hji]
        refine anyM_eqv fuel _ _ _ _ (put_comm (fun x hx => ?_) v u) hrest
        rw [dj]
        exact a2 x (by rw [← di]; exact hx)
theorem anyM_lex (hok : tmpsOk ops ops.toList L = true) : ∀ (l : List Oper) (pl : List POp) (k : Nat) (listed : Array Bool) (ρ : Env) (st : St), l.length = pl.length → (∀ j, l[j]? = ops[k + j]?) → (∀ j, pl[j]? = L[k + j]?) →
    Region.lexFrom .any ops l.length k listed = true → LexM P m A B k pl ρ st ρ' st' → anyM P m A B ops L ρ' st' l.length listed ρ st
  | [], [], _, _, _, _, _, _, _, hB, h => ⟨by simpa [Region.lexFrom] using hB, fun t => by rw [show ρ' = _ from h.1], h.2.symm⟩
  | [], _ :: _, _, _, _, _, hl, _, _, _, _ => by cases hl
  | _ :: _, [], _, _, _, _, hl, _, _, _, _ => by cases hl
  | O :: l, o :: pl, k, listed, ρ, st, hlen, hl, hp, hB, h => by
    have h0 : ops[k]? = some O := by simpa using (hl 0).symm
    have h1 : L[k]? = some o := by simpa using (hp 0).symm
    simp only [List.length_cons, Region.lexFrom, Bool.and_eq_true] at hB
    obtain ⟨⟨hr, hf⟩, hB'⟩ := hB
    obtain ⟨p, st1, hy, hrest⟩ := h
    exact anyM_first hok h1 h0 l.length listed ρ st st1 (Region.free_spec h0 hf) (by simpa using hr) hy
      (anyM_lex hok l pl (k + 1) _ _ _ (by simpa using hlen) (fun j => by have := hl (j + 1); simpa [Nat.add_assoc, Nat.add_comm 1 j] using this) (fun j => by have := hp (j + 1); simpa [Nat.add_assoc, Nat.add_comm 1 j] using this) hB' hrest)
end
section
variable {P : Program} {X : Cx} {n : Nat}
theorem wpOp_stepM {m : Nat} {A B : St} {st st1 : St} {G : Gh} {ops : Array Oper} {w : World} {ρ : Env} {a : Act} (hI : Inv X st G w) (hE : EnvRep G (OwnF X st G) w n ρ a) {i : Nat} {O : Oper} {o : POp} (hO : ops[i]? = some O) (hc : cPOp P ops n O = some o) {p : PV} (hy : StepM P m A B i o ρ st p st1) {K : Act → World → Prop} {Q : Exit → Act → World → Prop}
    (hK : After X n st1 (Env.put ρ o.dst p) K) : wpOp P ops Q i K a w := by
  rcases hy with ⟨_, rfl, hab, hy, hz⟩ | ⟨_, rfl, rfl, hg, hh⟩
  · exact wpOp_ysem hI hE hO hc (by rcases hab with rfl | rfl; exact hy; exact hz) fun w' a' h1 h2 => hK G w' a' h1 h2
  · obtain ⟨h1, h2, h3, h4⟩ := cPOp_spec hc
    unfold wpOp
    simp only [hO]
    rw [gd_wanted hE h1 hg]
    simp only [if_true]
    refine .inl ?_
    rcases hh with hq | ⟨f, xs, g, caps, q, τ, st2, e1, e2, e3, e4, e5, rfl⟩
    · exact wp_lok hE h3.symm (by rw [h3]; exact h4) ((step_sound hI hE h2).2 p st1 hq) hK
    · rw [e1] at h2
      exact wp_raw hI hE h3.symm (by rw [h3]; exact h4) h2 e2 e3 e4 e5 hK
theorem wpAny_of_anyM {m : Nat} {A B : St} {ops : Array Oper} {L : List POp} {ρ' : Env} {st' : St} (hc : cOps P ops n ops.toList = some L) {Q : Exit → Act → World → Prop} (hQ : ∀ G a w ρ, Inv X st' G w → EnvRep G (OwnF X st' G) w n ρ a → EqA ρ ρ' → Q .normal a w) :
    ∀ (fuel : Nat) (listed : Array Bool) (ρ : Env) (st : St) (G : Gh) (a : Act) (w : World), Inv X st G w → EnvRep G (OwnF X st G) w n ρ a → anyM P m A B ops L ρ' st' fuel listed ρ st → wpAny P .any ops Q fuel listed a w
  | 0, _, ρ, st, G, a, w, hI, hE, h => by
    obtain ⟨h1, h2, rfl⟩ := h
    exact ⟨h1, hQ G a w ρ hI hE h2⟩
  | fuel + 1, listed, ρ, st, G, a, w, hI, hE, h => ⟨fun h0 => by
      obtain ⟨h2, rfl⟩ := h.1 h0
      exact hQ G a w ρ hI hE h2, fun i hi => by
      obtain ⟨o, p, st1, h1, h2, h3⟩ := h.2 i hi
      obtain ⟨_, O, hO, _⟩ := mem_ready.1 hi
      exact wpOp_stepM hI hE hO ((cOps_get hc).2 i O o (by simpa using hO) h1) h2 (fun G' w' a' hI' hE' => wpAny_of_anyM hc hQ fuel _ _ _ G' a' w' hI' hE' h3)⟩
theorem wp_drawnL {m : Nat} {A B : St} {st st' : St} {G : Gh} {id : Nat} {ops : Array Oper} {L : List POp} {w : World} {ρ ρ' : Env} {a : Act} {Q : Exit → Act → World → Prop} (hm : P.follows .mixedOrders = true) (hB : Region.lexB .any ops = true) (hok : tmpsOk ops ops.toList L = true) (hc : cOps P ops n ops.toList = some L)
    (hI : Inv X st G w) (hE : EnvRep G (OwnF X st G) w n ρ a) (hl : LexM P m A B 0 L ρ st ρ' st') (hQ : ∀ G a w, Inv X st' G w → EnvRep G (OwnF X st' G) w n ρ' a → Q .normal a w) : (Code.region id ops true).wp P Q a w := by
  simp only [Region.lexB, Bool.and_eq_true] at hB
  have hd : Below w.heap.size w { w with drawn := w.drawn + 1 } := ⟨rfl, rfl, rfl, Nat.le_refl _, fun _ _ => rfl⟩
  obtain ⟨m1, m2⟩ := inv_below hI hd
  refine wp_region_any hm ?_
  have := anyM_lex (P := P) (m := m) (A := A) (B := B) (ρ' := ρ') (st' := st') hok ops.toList L 0 (Array.replicate ops.size false) ρ st (by simpa using (tmpsOk_spec hok).1) (by simp) (by simp) (by simpa using hB.2) hl
  refine wpAny_of_anyM (m := m) (A := A) (B := B) hc (fun G a w ρ1 h1 h2 h3 => hQ G a w h1 (eqA_env h2 h3)) _ _ ρ st G a _ m1 (m2.env hE) ?_
  simpa using this
end
end Go.AM

/- AM18: code made plain; what a run is. -/
import Derived.Test.YthoknkogdldgcaaAm17
set_option linter.unusedVariables false
set_option linter.unusedSimpArgs false
namespace Go.AM
open Go.RowKit

/-! ### Compiling -/
def cGuard (ops : Array Oper) : Option (Nat × Bool) → Option (Option (Nat × Bool))
  | none => some none
  | some (j, want) => match (ops[j]?).bind (·.dst) with
    | some t => some (some (t, want))
    | none => none
def dstOk (n : Nat) : Option Nat → Bool
  | none => true
  | some d => decide (d < n)
def cPOp (P : Program) (ops : Array Oper) (n : Nat) (o : Oper) : Option POp :=
  match cGuard ops o.guard, cOp P o.op with
  | some g, some pi => if dstOk n o.dst = true then some ⟨o.dst, g, pi⟩ else none
  | _, _ => none
def cOps (P : Program) (ops : Array Oper) (n : Nat) : List Oper → Option (List POp)
  | [] => some []
  | o :: r => match cPOp P ops n o, cOps P ops n r with
    | some p, some ps => some (p :: ps)
    | _, _ => none
def Opd.tmps : Opd → List Nat
  | .t n => [n]
  | .c _ => []
def optTmps : Option Opd → List Nat
  | none => []
  | some x => x.tmps
/-- The temporaries that an instruction looks at. -/
def PI.tmps : PI → List Nat
  | .move x | .box x | .fieldAddr x _ | .field x _ _ _ | .conv _ x | .toBytes x | .toStr x | .textId x | .neg x | .not x | .eqNil _ _ x | .extract x _ | .mkIface _ x | .nilCheck x | .len _ x | .cap x | .load _ _ x => x.tmps
  | .pick c a b => c.tmps ++ (a.tmps ++ b.tmps)
  | .store _ x y | .indexA x y _ _ | .indexS x y _ | .indexStr x y | .bin _ x y | .eqBool _ x y | .eqAgg _ x y | .makeSl _ _ _ x y | .append _ _ _ x y | .copy _ x y => x.tmps ++ y.tmps
  | .alloc _ => []
  | .build _ ps => ps.flatMap fun p => p.2.2.tmps
  | .buildSl _ _ ps => ps.flatMap fun p => p.2.tmps
  | .sliceStr x lo hi => x.tmps ++ (optTmps lo ++ optTmps hi)
  | .sliceSl x _ lo hi mx => x.tmps ++ (optTmps lo ++ (optTmps hi ++ optTmps mx))
  | .sliceArr x _ _ lo hi mx => x.tmps ++ (optTmps lo ++ (optTmps hi ++ optTmps mx))
  | .mkFunc _ caps => caps.flatMap Opd.tmps
  | .minmax _ xs => xs.flatMap Opd.tmps
  | .call f xs => f.tmps ++ xs.flatMap Opd.tmps
def POp.tmps (o : POp) : List Nat := o.op.tmps ++ (match o.guard with | some (t, _) => [t] | none => [])
/-- An operation of a region whose order is drawn looks at no more than the machine says. -/
def tmpsOk (ops : Array Oper) : List Oper → List POp → Bool
  | o :: r, p :: ps => p.tmps.all (fun t => (o.looksAt ops).contains t) && decide (p.dst = o.dst) && tmpsOk ops r ps
  | [], [] => true
  | _, _ => false
def cCode (P : Program) (n : Nat) (kill : Nat → List Nat) : Code → Option PC
  | .skip => some .skip
  | .region id ops draw => match cOps P ops n ops.toList with
    | some l => if draw = true then (if P.follows .mixedOrders = true ∧ Region.lexB .any ops = true ∧ tmpsOk ops ops.toList l = true then some (.drawn l (kill id)) else none) else some (.ops l (kill id))
    | none => none
  | .seq a b => match cCode P n kill a, cCode P n kill b with
    | some x, some y => some (.seq x y)
    | _, _ => none
  | .cond c a b => match cOpd c, cCode P n kill a, cCode P n kill b with
    | some z, some x, some y => some (.cond z x y)
    | _, _, _ => none
  | .block id c => (cCode P n kill c).map (.block id)
  | .loop c => (cCode P n kill c).map .loop
  | .exit id => some (.exit id)
  | .ret => some .ret
  | _ => none
def cRes (P : Program) : ResultVar → Option PRes
  | .tmp t => some (.tmp t)
  | .cell a t => match tyOf P t with
    | some (d, i) => if aggD d = true ∨ i.size = 1 then some (.cell a i.size (aggD d)) else none
    | none => none
def cRess (P : Program) : List ResultVar → Option (List PRes)
  | [] => some []
  | r :: rs => match cRes P r, cRess P rs with
    | some x, some xs => some (x :: xs)
    | _, _ => none
/-- A function's plain form. -/
structure FnOK (P : Program) (f : Nat) (pf : PF) : Prop where
  ok : ∃ fn c kill, P.funcs[f]? = some fn ∧ fn.body = some c ∧ cCode P fn.ntmps kill c = some pf.body ∧ pf.ntmps = fn.ntmps ∧ cRess P fn.results.toList = some pf.results ∧ (fn.name == "runtime.NumGoroutine") = false

/-! ### Runs -/
inductive EX where
  | normal
  | exit (id : Nat)
  | ret
  deriving DecidableEq

def gd (e : Nat → Option PV) : Option (Nat × Bool) → Option Bool
  | none => some true
  | some (t, want) => match e t with
    | some (.bool b) => some (b == want)
    | some (.tuple []) => some false
    | _ => none

def ViewL (live : Bool) (look : Nat → Option Tok) (xs ys : List PV) : Prop := xs.length = ys.length ∧ ∀ (i : Nat) (x y : PV), xs[i]? = some x → ys[i]? = some y → View live look x y
def scalarR : PV → Bool
  | .tuple vs => vs.all scalar?
  | v => scalar? v

def envFrom (k : Nat) : List PV → Env
  | [] => []
  | p :: r => (k, p) :: envFrom (k + 1) r

def mapO {α β : Type} (f : α → Option β) : List α → Option (List β)
  | [] => some []
  | x :: r => match f x, mapO f r with
    | some y, some ys => some (y :: ys)
    | _, _ => none
def res1 (ρ : Env) (look : Nat → Option Tok) : PRes → Option PV
  | .tmp t => some (ρ.at t)
  | .cell a n agg => loadAt look n agg (ρ.at a)
def resOf (ρ : Env) (look : Nat → Option Tok) (rs : List PRes) : Option PV :=
  match mapO (res1 ρ look) rs with
  | some [v] => some v
  | some vs => some (.tuple vs)
  | none => none

/-- Only tokens below m. -/
inductive Bel (m : Nat) : PV → Prop
  | junk : Bel m .junk
  | bool (b) : Bel m (.bool b)
  | int (k n) : Bel m (.int k n)
  | str (s) : Bel m (.str s)
  | nilPtr : Bel m .nilPtr
  | ptr (t off) (h : t < m) : Bel m (.ptr t off)
  | rptr (t g i off) (h : t < m) : Bel m (.rptr t g i off)
  | iptr (cs off) (h : ∀ c ∈ cs, Bel m c) : Bel m (.iptr cs off)
  | nilSl : Bel m .nilSl
  | sl (xs full) (h : ∀ cs ∈ xs, ∀ c ∈ cs, Bel m c) : Bel m (.sl xs full)
  | osl (t g off len full) (h : t < m) : Bel m (.osl t g off len full)
  | vsl (t off sz len) (h : t < m) : Bel m (.vsl t off sz len)
  | func (f cs) (h : ∀ c ∈ cs, Bel m c) : Bel m (.func f cs)
  | nilFunc : Bel m .nilFunc
  | iface (ty v) (h : Bel m v) : Bel m (.iface ty v)
  | nilIface : Bel m .nilIface
  | agg (cs) (h : ∀ c ∈ cs, Bel m c) : Bel m (.agg cs)
  | tuple (cs) (h : ∀ c ∈ cs, Bel m c) : Bel m (.tuple cs)
def BelTok (m : Nat) : Tok → Prop
  | .var cs => ∀ c ∈ cs, Bel m c
  | .row _ _ es _ => ∀ cs ∈ es, ∀ c ∈ cs, Bel m c

/-- Less is known. -/
structure Weak (ρ : Env) (st : St) (ρ' : Env) (st' : St) : Prop where
  base : st'.base = st.base
  next : st'.base ≤ st'.next ∧ st'.next ≤ st.next
  env : ∀ t p, getA t ρ' = some p → p = .junk ∨ (getA t ρ = some p ∧ Bel st'.next p)
  toks : ∀ t k, st'.get t = some k → t < st'.next ∧ BelTok st'.next k ∧ (st.get t = some k ∨ ∃ g sz es, k = .row g sz es false ∧ st.get t = some (.row g sz es true))

inductive J where
  | code (c : PC) (ρ : Env) (st : St) (x : EX) (ρ' : Env) (st' : St)
  | ops (l : List POp) (ρ : Env) (st : St) (ρ' : Env) (st' : St)
  | drawn (l : List POp) (ρ : Env) (st : St) (ρ' : Env)
  | call (f : Nat) (args : List PV) (r : PV)
  | raw (f : Nat) (args : List PV) (st : St) (r : PV) (st' : St)

/-- What a run of plain code is. prim, ext: calls told otherwise. -/
inductive Run (tbl : Nat → Option PF) (prim ext : Nat → List PV → PV → Prop) : J → Prop
  | skip (ρ st) : Run tbl prim ext (.code .skip ρ st .normal ρ st)
  | ops (l kill ρ st ρ' st') (h : Run tbl prim ext (.ops l ρ st ρ' st')) : Run tbl prim ext (.code (.ops l kill) ρ st .normal (dropA kill ρ') st')
  | drawn (l kill ρ st ρ') (h : Run tbl prim ext (.drawn l ρ st ρ')) : Run tbl prim ext (.code (.drawn l kill) ρ st .normal (dropA kill ρ') st)
  | seqN (a b ρ st ρ1 st1 x ρ' st') (h : Run tbl prim ext (.code a ρ st .normal ρ1 st1)) (k : Run tbl prim ext (.code b ρ1 st1 x ρ' st')) : Run tbl prim ext (.code (.seq a b) ρ st x ρ' st')
  | seqX (a b ρ st x ρ' st') (hx : x ≠ .normal) (h : Run tbl prim ext (.code a ρ st x ρ' st')) : Run tbl prim ext (.code (.seq a b) ρ st x ρ' st')
  | cond (c a b ρ st t x ρ' st') (hc : c.ev ρ = .bool t) (h : Run tbl prim ext (.code (if t then a else b) ρ st x ρ' st')) : Run tbl prim ext (.code (.cond c a b) ρ st x ρ' st')
  | block (id c ρ st x ρ' st') (h : Run tbl prim ext (.code c ρ st x ρ' st')) : Run tbl prim ext (.code (.block id c) ρ st (if x = .exit id then .normal else x) ρ' st')
  | loopN (c ρ st ρ1 st1 x ρ' st') (h : Run tbl prim ext (.code c ρ st .normal ρ1 st1)) (k : Run tbl prim ext (.code (.loop c) ρ1 st1 x ρ' st')) : Run tbl prim ext (.code (.loop c) ρ st x ρ' st')
  | loopX (c ρ st x ρ' st') (hx : x ≠ .normal) (h : Run tbl prim ext (.code c ρ st x ρ' st')) : Run tbl prim ext (.code (.loop c) ρ st x ρ' st')
  | exit (id ρ st) : Run tbl prim ext (.code (.exit id) ρ st (.exit id) ρ st)
  | ret (ρ st) : Run tbl prim ext (.code .ret ρ st .ret ρ st)
  | weak (c ρ st ρ1 st1 x ρ' st') (hw : Weak ρ st ρ1 st1) (h : Run tbl prim ext (.code c ρ1 st1 x ρ' st')) : Run tbl prim ext (.code c ρ st x ρ' st')
  | opsNil (ρ st) : Run tbl prim ext (.ops [] ρ st ρ st)
  | opsSkip (o l ρ st ρ' st') (hg : gd (getA · ρ) o.guard = some false) (h : Run tbl prim ext (.ops l (Env.put ρ o.dst (.tuple [])) st ρ' st')) : Run tbl prim ext (.ops (o :: l) ρ st ρ' st')
  | opsQuiet (o l ρ st p ρ' st') (hg : gd (getA · ρ) o.guard = some true) (hq : quiet st.get (Opd.ev ρ) o.op = some p) (h : Run tbl prim ext (.ops l (Env.put ρ o.dst p) st ρ' st')) : Run tbl prim ext (.ops (o :: l) ρ st ρ' st')
  | opsLoud (o l ρ st p st1 ρ' st') (hg : gd (getA · ρ) o.guard = some true) (hq : loud st (Opd.ev ρ) o.op = some (p, st1)) (h : Run tbl prim ext (.ops l (Env.put ρ o.dst p) st1 ρ' st')) : Run tbl prim ext (.ops (o :: l) ρ st ρ' st')
  | opsCall (o l ρ st f xs g caps args r ρ' st') (hg : gd (getA · ρ) o.guard = some true) (ho : o.op = .call f xs) (hf : f.ev ρ = .func g caps) (hv : ViewL false st.get (xs.map (Opd.ev ρ) ++ caps) args) (hc : Run tbl prim ext (.call g args r))
      (h : Run tbl prim ext (.ops l (Env.put ρ o.dst r) st ρ' st')) : Run tbl prim ext (.ops (o :: l) ρ st ρ' st')
  | opsCallS (o l ρ st f xs g caps args r ρ' st') (hg : gd (getA · ρ) o.guard = some true) (ho : o.op = .call f xs) (hf : f.ev ρ = .func g caps) (hv : ViewL true st.get (xs.map (Opd.ev ρ) ++ caps) args) (hr : scalarR r = true) (hc : Run tbl prim ext (.call g args r))
      (h : Run tbl prim ext (.ops l (Env.put ρ o.dst r) st ρ' st')) : Run tbl prim ext (.ops (o :: l) ρ st ρ' st')
  | opsExt (o l ρ st f xs g caps args r ρ' st') (hg : gd (getA · ρ) o.guard = some true) (ho : o.op = .call f xs) (hf : f.ev ρ = .func g caps) (hv : ViewL true st.get (xs.map (Opd.ev ρ) ++ caps) args) (hr : scalarR r = true) (hc : ext g args r)
      (h : Run tbl prim ext (.ops l (Env.put ρ o.dst r) st ρ' st')) : Run tbl prim ext (.ops (o :: l) ρ st ρ' st')
  | opsRaw (o l ρ st f xs g caps q τ r st1 ρ' st') (hg : gd (getA · ρ) o.guard = some true) (ho : o.op = .call f xs) (hf : f.ev ρ = .func g caps) (hp : Parts st q τ) (hb : st1.base = st.next) (hc : Run tbl prim ext (.raw g (xs.map (Opd.ev ρ) ++ caps) (partSt st τ) r st1))
      (h : Run tbl prim ext (.ops l (Env.put ρ o.dst r) (joinSt st q st1) ρ' st')) : Run tbl prim ext (.ops (o :: l) ρ st ρ' st')
  | drawnNil (ρ st) : Run tbl prim ext (.drawn [] ρ st ρ)
  | drawnSkip (o l ρ st ρ') (hg : gd (getA · ρ) o.guard = some false) (h : Run tbl prim ext (.drawn l (Env.put ρ o.dst (.tuple [])) st ρ')) : Run tbl prim ext (.drawn (o :: l) ρ st ρ')
  | drawnQuiet (o l ρ st p ρ') (hg : gd (getA · ρ) o.guard = some true) (hq : quiet st.get (Opd.ev ρ) o.op = some p) (h : Run tbl prim ext (.drawn l (Env.put ρ o.dst p) st ρ')) : Run tbl prim ext (.drawn (o :: l) ρ st ρ')
  | drawnCall (o l ρ st f xs g caps args r ρ') (hg : gd (getA · ρ) o.guard = some true) (ho : o.op = .call f xs) (hf : f.ev ρ = .func g caps) (hv : ViewL false st.get (xs.map (Opd.ev ρ) ++ caps) args) (hc : Run tbl prim ext (.call g args r))
      (h : Run tbl prim ext (.drawn l (Env.put ρ o.dst r) st ρ')) : Run tbl prim ext (.drawn (o :: l) ρ st ρ')
  | drawnCallS (o l ρ st f xs g caps args r ρ') (hg : gd (getA · ρ) o.guard = some true) (ho : o.op = .call f xs) (hf : f.ev ρ = .func g caps) (hv : ViewL true st.get (xs.map (Opd.ev ρ) ++ caps) args) (hr : scalarR r = true) (hc : Run tbl prim ext (.call g args r))
      (h : Run tbl prim ext (.drawn l (Env.put ρ o.dst r) st ρ')) : Run tbl prim ext (.drawn (o :: l) ρ st ρ')
  | call (f pf args x ρ' st' r0 r) (hf : tbl f = some pf) (hn : args.length ≤ pf.ntmps) (h : Run tbl prim ext (.code pf.body (envFrom 0 args) emptySt x ρ' st')) (hx : x = .normal ∨ x = .ret) (hr : resOf ρ' st'.get pf.results = some r0) (hv : View true st'.get r0 r) : Run tbl prim ext (.call f args r)
  | prim (f args r) (h : prim f args r) : Run tbl prim ext (.call f args r)
  | raw (f pf args st x ρ' st' r) (hf : tbl f = some pf) (hn : args.length ≤ pf.ntmps) (h : Run tbl prim ext (.code pf.body (envFrom 0 args) st x ρ' st')) (hx : x = .normal ∨ x = .ret) (hr : resOf ρ' st'.get pf.results = some r) : Run tbl prim ext (.raw f args st r st')
end Go.AM

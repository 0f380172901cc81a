/- The abstract machine: AM18: code made plain; what a run is. · AM19: a run of plain code is a run of the machine: the parts. · AM20: one operation, calls. -/
import Derived.Test.YtbeaalkfakjoiaaDoorAmC
set_option linter.unusedSectionVars false
set_option linter.unusedVariables false
set_option linter.unusedSimpArgs false
namespace Go.AM
open Go.RowKit
variable [Gl]
def cGuard (ops : Array Oper) : Option (Nat × Bool) → Option (Option (Nat × Bool))
  | none => some none
  | some (j, want) => match (ops[j]?).bind (·.dst) with
    | some t => some (some (t, want))
    | none => none
def dstOk (n : Nat) : Option Nat → Bool
  | none => true
  | some d => decide (d < n)
def cPOp (P : Program) (ops : Array Oper) (n : Nat) (o : Oper) : Option POp :=
  match cGuard ops o.guard, cOp P o.op with
  | some g, some pi => if dstOk n o.dst = true then some ⟨o.dst, g, pi⟩ else none
  | _, _ => none
def cOps (P : Program) (ops : Array Oper) (n : Nat) : List Oper → Option (List POp)
  | [] => some []
  | o :: r => match cPOp P ops n o, cOps P ops n r with
    | some p, some ps => some (p :: ps)
    | _, _ => none
def Opd.tmps : Opd → List Nat
  | .t n => [n]
  | .c _ => []
def optTmps : Option Opd → List Nat
  | none => []
  | some x => x.tmps
def PI.tmps : PI → List Nat
  | .move x | .box x | .fieldAddr x _ | .field x _ _ _ | .conv _ x | .toBytes x | .toStr x | .textId x | .neg x | .not x | .eqNil _ _ x | .extract x _ | .mkIface _ x | .nilCheck x | .len _ x | .cap x | .load _ _ x => x.tmps
  | .pick c a b => c.tmps ++ (a.tmps ++ b.tmps)
  | .store _ x y | .indexA x y _ _ | .indexS x y _ | .indexStr x y | .bin _ x y | .eqBool _ x y | .eqAgg _ _ x y | .makeSl _ _ _ x y | .append _ _ _ x y | .appendZ _ _ _ x y | .copy _ x y => x.tmps ++ y.tmps
  | .alloc _ => []
  | .build _ ps => ps.flatMap fun p => p.2.2.tmps
  | .buildSl _ _ ps => ps.flatMap fun p => p.2.tmps
  | .sliceStr x lo hi => x.tmps ++ (optTmps lo ++ optTmps hi)
  | .sliceSl x _ lo hi mx => x.tmps ++ (optTmps lo ++ (optTmps hi ++ optTmps mx))
  | .sliceArr x _ _ lo hi mx => x.tmps ++ (optTmps lo ++ (optTmps hi ++ optTmps mx))
  | .mkFunc _ caps => caps.flatMap Opd.tmps
  | .minmax _ xs => xs.flatMap Opd.tmps
  | .call f xs => f.tmps ++ xs.flatMap Opd.tmps
  | .makeMap => []
  | .mapLook _ _ x y => x.tmps ++ y.tmps
  | .mapPut x y z => x.tmps ++ (y.tmps ++ z.tmps)
def POp.tmps (o : POp) : List Nat := o.op.tmps ++ (match o.guard with | some (t, _) => [t] | none => [])
def tmpsOk (ops : Array Oper) : List Oper → List POp → Bool
  | o :: r, p :: ps => p.tmps.all (fun t => (o.looksAt ops).contains t) && decide (p.dst = o.dst) && tmpsOk ops r ps
  | [], [] => true
  | _, _ => false
def badPC : PC := .cond (.c .junk) .skip .skip
def cCode (P : Program) (n : Nat) (kill : Nat → List Nat) : Code → Option PC
  | .skip => some .skip
  | .region id ops draw => match cOps P ops n ops.toList with
    | some l => if draw = true then (if P.follows .mixedOrders = true ∧ Region.lexB .any ops = true ∧ tmpsOk ops ops.toList l = true then some (.drawn l (kill id)) else some badPC) else some (.ops l (kill id))
    | none => some badPC
  | .seq a b => match cCode P n kill a, cCode P n kill b with
    | some x, some y => some (.seq x y)
    | _, _ => none
  | .cond c a b => match cOpd c, cCode P n kill a, cCode P n kill b with
    | some z, some x, some y => some (.cond z x y)
    | _, _, _ => some badPC
  | .block id c => (cCode P n kill c).map (.block id)
  | .loop c => (cCode P n kill c).map .loop
  | .exit id => some (.exit id)
  | .ret => some .ret
  | _ => some badPC
def cRes (P : Program) : ResultVar → Option PRes
  | .tmp t => some (.tmp t)
  | .cell a t => match tyOf P t with
    | some (d, i) => if aggD d = true ∨ i.size = 1 then some (.cell a i.size (aggD d)) else none
    | none => none
def cRess (P : Program) : List ResultVar → Option (List PRes)
  | [] => some []
  | r :: rs => match cRes P r, cRess P rs with
    | some x, some xs => some (x :: xs)
    | _, _ => none
structure FnOK (P : Program) (f : Nat) (pf : PF) : Prop where
  ok : ∃ fn c kill, P.funcs[f]? = some fn ∧ fn.body = some c ∧ cCode P fn.ntmps kill c = some pf.body ∧ pf.ntmps = fn.ntmps ∧ cRess P fn.results.toList = some pf.results ∧ (fn.name == "runtime.NumGoroutine") = false
inductive EX where
  | normal
  | exit (id : Nat)
  | ret
  deriving DecidableEq
def gd (e : Nat → Option PV) : Option (Nat × Bool) → Option Bool
  | none => some true
  | some (t, want) => match e t with
    | some (.bool b) => some (b == want)
    | some (.tuple []) => some false
    | _ => none
def ViewL (live : Bool) (look : Nat → Option Tok) (xs ys : List PV) : Prop := xs.length = ys.length ∧ ∀ (i : Nat) (x y : PV), xs[i]? = some x → ys[i]? = some y → View live look x y
def scalarR : PV → Bool
  | .tuple vs => vs.all scalar?
  | v => scalar? v
def envFrom (k : Nat) : List PV → Env
  | [] => []
  | p :: r => (k, p) :: envFrom (k + 1) r
def mapO {α β : Type} (f : α → Option β) : List α → Option (List β)
  | [] => some []
  | x :: r => match f x, mapO f r with
    | some y, some ys => some (y :: ys)
    | _, _ => none
def res1 (ρ : Env) (look : Nat → Option Tok) : PRes → Option PV
  | .tmp t => some (ρ.at t)
  | .cell a n agg => loadAt look n agg (ρ.at a)
def resOf (ρ : Env) (look : Nat → Option Tok) (rs : List PRes) : Option PV :=
  match mapO (res1 ρ look) rs with
  | some [v] => some v
  | some vs => some (.tuple vs)
  | none => none
inductive Bel (m : Nat) : PV → Prop
  | junk : Bel m .junk
  | bool (b) : Bel m (.bool b)
  | int (k n) : Bel m (.int k n)
  | str (s) : Bel m (.str s)
  | nilPtr : Bel m .nilPtr
  | ptr (t off) (h : t < m) : Bel m (.ptr t off)
  | rptr (t g i off) (h : t < m) : Bel m (.rptr t g i off)
  | iptr (cs off) (h : ∀ c ∈ cs, Bel m c) : Bel m (.iptr cs off)
  | nilSl : Bel m .nilSl
  | sl (xs full) (h : ∀ cs ∈ xs, ∀ c ∈ cs, Bel m c) : Bel m (.sl xs full)
  | osl (t g off len full) (h : t < m) : Bel m (.osl t g off len full)
  | vsl (t off sz len) (h : t < m) : Bel m (.vsl t off sz len)
  | func (f cs) (h : ∀ c ∈ cs, Bel m c) : Bel m (.func f cs)
  | nilFunc : Bel m .nilFunc
  | iface (ty v) (h : Bel m v) : Bel m (.iface ty v)
  | nilIface : Bel m .nilIface
  | agg (cs) (h : ∀ c ∈ cs, Bel m c) : Bel m (.agg cs)
  | tuple (cs) (h : ∀ c ∈ cs, Bel m c) : Bel m (.tuple cs)
  | mapv (t) (h : t < m) : Bel m (.mapv t)
def BelTok (m : Nat) : Tok → Prop
  | .var cs => ∀ c ∈ cs, Bel m c
  | .row _ _ es _ => ∀ cs ∈ es, ∀ c ∈ cs, Bel m c
  | .mp es => ∀ x ∈ es, Bel m x.2
structure Weak (ρ : Env) (st : St) (ρ' : Env) (st' : St) : Prop where
  base : st'.base = st.base
  next : st'.base ≤ st'.next ∧ st'.next ≤ st.next
  env : ∀ t p, getA t ρ' = some p → p = .junk ∨ (getA t ρ = some p ∧ Bel st'.next p)
  toks : ∀ t k, st'.get t = some k → t < st'.next ∧ BelTok st'.next k ∧ (st.get t = some k ∨ ∃ g sz es, k = .row g sz es false ∧ st.get t = some (.row g sz es true))
def SeenV (st : St) (p q : PV) : Prop := p = q ∨ View false st.get p q
def SeenL (st : St) (cs ds : List PV) : Prop := cs.length = ds.length ∧ ∀ (i : Nat) (c d : PV), cs[i]? = some c → ds[i]? = some d → SeenV st c d
def SeenT (st : St) : Tok → Tok → Prop
  | .var cs, .var ds => SeenL st cs ds
  | .row g sz es lv, .row g' sz' fs lv' => g' = g ∧ sz' = sz ∧ lv' = lv ∧ es.length = fs.length ∧ ∀ (j : Nat) (cs ds : List PV), es[j]? = some cs → fs[j]? = some ds → SeenL st cs ds
  | .mp es, .mp fs => fs = es
  | _, _ => False
structure Seen (ρ : Env) (st : St) (ρ' : Env) (st' : St) : Prop where
  base : st'.base = st.base
  next : st'.next = st.next
  env : ∀ t p', getA t ρ' = some p' → ∃ p, getA t ρ = some p ∧ SeenV st p p'
  toks : ∀ t k', st'.get t = some k' → ∃ k, st.get t = some k ∧ SeenT st k k'
structure Chn where
  idx : Nat → Option Nat
  d : Nat → Option Nat
  S : Nat → St
  al : Option (Nat × Nat × Nat × List PV)
  need : Nat → List Nat
def Chn.away (C : Chn) (k : Nat) (o : POp) : Bool := match C.al with
  | none => true
  | some (ka, d, _, _) => !(Nat.beq k ka) && (!(o.tmps.contains d) && decide (o.dst ≠ some d))
def Chn.link (C : Chn) (i : Nat) (o : POp) : Bool := (match i with
  | 0 => true
  | j + 1 => match C.d j with
    | some d => o.tmps.contains d
    | none => false) && (C.need i).all (fun d => o.tmps.contains d)
def Chn.stores (C : Chn) (i : Nat) : Bool := match C.al with
  | none => false
  | some (_, _, m, _) => Nat.beq m i
def Chn.float (C : Chn) (b : Bool) (i : Nat) : Bool := match C.al with
  | none => false
  | some (_, _, m, _) => b && Nat.ble i m
structure Bx where
  m : Nat
  d : Nat
  N : Nat
  D : List Nat
  cs : List PV
  A : St
  B : St
def Bx.away (C : Bx) (o : POp) : Bool := o.tmps.all (fun t => !(C.D.contains t)) && C.D.all (fun e => decide (o.dst ≠ some e))
inductive J where
  | code (c : PC) (ρ : Env) (st : St) (x : EX) (ρ' : Env) (st' : St)
  | ops (l : List POp) (ρ : Env) (st : St) (ρ' : Env) (st' : St)
  | drawn (l : List POp) (ρ : Env) (st : St) (ρ' : Env)
  | call (f : Nat) (args : List PV) (r : PV)
  | raw (f : Nat) (args : List PV) (st : St) (r : PV) (st' : St)
  | dl (m : Nat) (A B : St) (k : Nat) (l : List POp) (ρ : Env) (st : St) (ρ' : Env) (st' : St)
  | dl2 (m1 m2 d : Nat) (A B C : St) (k : Nat) (l : List POp) (ρ : Env) (st : St) (ρ' : Env) (st' : St)
  | dli (m1 m2 : Nat) (S : Bool → Bool → St) (k : Nat) (l : List POp) (ρ : Env) (b c : Bool) (ρ' : Env) (b' c' : Bool)
  | dlc (C : Chn) (k : Nat) (l : List POp) (ρ : Env) (b : Bool) (i : Nat) (ρ' : Env) (b' : Bool) (i' : Nat)
  | dlb (C : Bx) (k : Nat) (l : List POp) (ρ : Env) (st : St) (b : Bool) (ρ' : Env) (st' : St) (b' : Bool)
inductive Run (tbl : Nat → Option PF) (prim ext : Nat → List PV → PV → Prop) : J → Prop
  | skip (ρ st) : Run tbl prim ext (.code .skip ρ st .normal ρ st)
  | ops (l kill ρ st ρ' st') (h : Run tbl prim ext (.ops l ρ st ρ' st')) : Run tbl prim ext (.code (.ops l kill) ρ st .normal (dropA kill ρ') st')
  | drawn (l kill ρ st ρ') (h : Run tbl prim ext (.drawn l ρ st ρ')) : Run tbl prim ext (.code (.drawn l kill) ρ st .normal (dropA kill ρ') st)
  | seqN (a b ρ st ρ1 st1 x ρ' st') (h : Run tbl prim ext (.code a ρ st .normal ρ1 st1)) (k : Run tbl prim ext (.code b ρ1 st1 x ρ' st')) : Run tbl prim ext (.code (.seq a b) ρ st x ρ' st')
  | seqX (a b ρ st x ρ' st') (hx : x ≠ .normal) (h : Run tbl prim ext (.code a ρ st x ρ' st')) : Run tbl prim ext (.code (.seq a b) ρ st x ρ' st')
  | cond (c a b ρ st t x ρ' st') (hc : c.ev ρ = .bool t) (h : Run tbl prim ext (.code (if t then a else b) ρ st x ρ' st')) : Run tbl prim ext (.code (.cond c a b) ρ st x ρ' st')
  | block (id c ρ st x ρ' st') (h : Run tbl prim ext (.code c ρ st x ρ' st')) : Run tbl prim ext (.code (.block id c) ρ st (if x = .exit id then .normal else x) ρ' st')
  | loopN (c ρ st ρ1 st1 x ρ' st') (h : Run tbl prim ext (.code c ρ st .normal ρ1 st1)) (k : Run tbl prim ext (.code (.loop c) ρ1 st1 x ρ' st')) : Run tbl prim ext (.code (.loop c) ρ st x ρ' st')
  | loopX (c ρ st x ρ' st') (hx : x ≠ .normal) (h : Run tbl prim ext (.code c ρ st x ρ' st')) : Run tbl prim ext (.code (.loop c) ρ st x ρ' st')
  | exit (id ρ st) : Run tbl prim ext (.code (.exit id) ρ st (.exit id) ρ st)
  | ret (ρ st) : Run tbl prim ext (.code .ret ρ st .ret ρ st)
  | weak (c ρ st ρ1 st1 x ρ' st') (hw : Weak ρ st ρ1 st1) (h : Run tbl prim ext (.code c ρ1 st1 x ρ' st')) : Run tbl prim ext (.code c ρ st x ρ' st')
  | froze (c ρ st t g sz es x ρ' st') (hg : st.get t = some (.row g sz es true)) (h : Run tbl prim ext (.code c ρ (st.put t (.row g sz es false)) x ρ' st')) : Run tbl prim ext (.code c ρ st x ρ' st')
  | look (c ρ st ρ1 st1 x ρ' st') (hw : Seen ρ st ρ1 st1) (h : Run tbl prim ext (.code c ρ1 st1 x ρ' st')) : Run tbl prim ext (.code c ρ st x ρ' st')
  | opsNil (ρ st) : Run tbl prim ext (.ops [] ρ st ρ st)
  | opsSkip (o l ρ st ρ' st') (hg : gd (getA · ρ) o.guard = some false) (h : Run tbl prim ext (.ops l (Env.put ρ o.dst (.tuple [])) st ρ' st')) : Run tbl prim ext (.ops (o :: l) ρ st ρ' st')
  | opsQuiet (o l ρ st p ρ' st') (hg : gd (getA · ρ) o.guard = some true) (hq : quiet st.get (Opd.ev ρ) o.op = some p) (h : Run tbl prim ext (.ops l (Env.put ρ o.dst p) st ρ' st')) : Run tbl prim ext (.ops (o :: l) ρ st ρ' st')
  | opsLoud (o l ρ st p st1 ρ' st') (hg : gd (getA · ρ) o.guard = some true) (hq : loud st (Opd.ev ρ) o.op = some (p, st1)) (h : Run tbl prim ext (.ops l (Env.put ρ o.dst p) st1 ρ' st')) : Run tbl prim ext (.ops (o :: l) ρ st ρ' st')
  | opsCall (o l ρ st f xs g caps args r ρ' st') (hg : gd (getA · ρ) o.guard = some true) (ho : o.op = .call f xs) (hf : f.ev ρ = .func g caps) (hv : ViewL false st.get (xs.map (Opd.ev ρ) ++ caps) args) (hc : Run tbl prim ext (.call g args r))
      (h : Run tbl prim ext (.ops l (Env.put ρ o.dst r) st ρ' st')) : Run tbl prim ext (.ops (o :: l) ρ st ρ' st')
  | opsCallS (o l ρ st f xs g caps args r ρ' st') (hg : gd (getA · ρ) o.guard = some true) (ho : o.op = .call f xs) (hf : f.ev ρ = .func g caps) (hv : ViewL true st.get (xs.map (Opd.ev ρ) ++ caps) args) (hr : scalarR r = true) (hc : Run tbl prim ext (.call g args r))
      (h : Run tbl prim ext (.ops l (Env.put ρ o.dst r) st ρ' st')) : Run tbl prim ext (.ops (o :: l) ρ st ρ' st')
  | opsCallW (o l ρ st ρ0 st0 f xs g caps args r ρ' st') (hg : gd (getA · ρ) o.guard = some true) (ho : o.op = .call f xs) (hw : Weak ρ st ρ0 st0) (hf : f.ev ρ0 = .func g caps) (hv : ViewL false st0.get (xs.map (Opd.ev ρ0) ++ caps) args) (hc : Run tbl prim ext (.call g args r))
      (h : Run tbl prim ext (.ops l (Env.put ρ0 o.dst r) st0 ρ' st')) : Run tbl prim ext (.ops (o :: l) ρ st ρ' st')
  | opsExt (o l ρ st f xs g caps args r ρ' st') (hg : gd (getA · ρ) o.guard = some true) (ho : o.op = .call f xs) (hf : f.ev ρ = .func g caps) (hv : ViewL true st.get (xs.map (Opd.ev ρ) ++ caps) args) (hr : scalarR r = true) (hc : ext g args r)
      (h : Run tbl prim ext (.ops l (Env.put ρ o.dst r) st ρ' st')) : Run tbl prim ext (.ops (o :: l) ρ st ρ' st')
  | opsRaw (o l ρ st f xs g caps q τ r st1 ρ' st') (hg : gd (getA · ρ) o.guard = some true) (ho : o.op = .call f xs) (hf : f.ev ρ = .func g caps) (hp : Parts st q τ) (hb : st1.base = st.next) (hc : Run tbl prim ext (.raw g (xs.map (Opd.ev ρ) ++ caps) (partSt st τ) r st1))
      (h : Run tbl prim ext (.ops l (Env.put ρ o.dst r) (joinSt st q st1) ρ' st')) : Run tbl prim ext (.ops (o :: l) ρ st ρ' st')
  | drawnNil (ρ st) : Run tbl prim ext (.drawn [] ρ st ρ)
  | drawnSkip (o l ρ st ρ') (hg : gd (getA · ρ) o.guard = some false) (h : Run tbl prim ext (.drawn l (Env.put ρ o.dst (.tuple [])) st ρ')) : Run tbl prim ext (.drawn (o :: l) ρ st ρ')
  | drawnQuiet (o l ρ st p ρ') (hg : gd (getA · ρ) o.guard = some true) (hq : quiet st.get (Opd.ev ρ) o.op = some p) (h : Run tbl prim ext (.drawn l (Env.put ρ o.dst p) st ρ')) : Run tbl prim ext (.drawn (o :: l) ρ st ρ')
  | drawnCall (o l ρ st f xs g caps args r ρ') (hg : gd (getA · ρ) o.guard = some true) (ho : o.op = .call f xs) (hf : f.ev ρ = .func g caps) (hv : ViewL false st.get (xs.map (Opd.ev ρ) ++ caps) args) (hc : Run tbl prim ext (.call g args r))
      (h : Run tbl prim ext (.drawn l (Env.put ρ o.dst r) st ρ')) : Run tbl prim ext (.drawn (o :: l) ρ st ρ')
  | drawnCallS (o l ρ st f xs g caps args r ρ') (hg : gd (getA · ρ) o.guard = some true) (ho : o.op = .call f xs) (hf : f.ev ρ = .func g caps) (hv : ViewL true st.get (xs.map (Opd.ev ρ) ++ caps) args) (hr : scalarR r = true) (hc : Run tbl prim ext (.call g args r))
      (h : Run tbl prim ext (.drawn l (Env.put ρ o.dst r) st ρ')) : Run tbl prim ext (.drawn (o :: l) ρ st ρ')
  | drawnL (m B l kill ρ st ρ' st') (h : Run tbl prim ext (.dl m st B 0 l ρ st ρ' st')) : Run tbl prim ext (.code (.drawn l kill) ρ st .normal (dropA kill ρ') st')
  | dlNil (m A B k ρ st) : Run tbl prim ext (.dl m A B k [] ρ st ρ st)
  | dlSkip (m A B k o l ρ st ρ' st') (hk : k ≠ m) (hs : st = A ∨ st = B) (hg : gd (getA · ρ) o.guard = some false) (h : Run tbl prim ext (.dl m A B (k + 1) l (Env.put ρ o.dst (.tuple [])) st ρ' st')) : Run tbl prim ext (.dl m A B k (o :: l) ρ st ρ' st')
  | dlQuiet (m A B k o l ρ st p ρ' st') (hk : k ≠ m) (hs : st = A ∨ st = B) (hg : gd (getA · ρ) o.guard = some true) (hq : ∀ s, s = A ∨ s = B → quiet s.get (Opd.ev ρ) o.op = some p) (h : Run tbl prim ext (.dl m A B (k + 1) l (Env.put ρ o.dst p) st ρ' st')) : Run tbl prim ext (.dl m A B k (o :: l) ρ st ρ' st')
  | dlCall (m A B k o l ρ st f xs g caps args r ρ' st') (hk : k ≠ m) (hs : st = A ∨ st = B) (hg : gd (getA · ρ) o.guard = some true) (ho : o.op = .call f xs) (hf : f.ev ρ = .func g caps) (hv : ∀ s, s = A ∨ s = B → ViewL false s.get (xs.map (Opd.ev ρ) ++ caps) args) (hc : Run tbl prim ext (.call g args r))
      (h : Run tbl prim ext (.dl m A B (k + 1) l (Env.put ρ o.dst r) st ρ' st')) : Run tbl prim ext (.dl m A B k (o :: l) ρ st ρ' st')
  | dlLoud (m B o l ρ st p ρ' st') (hg : gd (getA · ρ) o.guard = some true) (hq : loud st (Opd.ev ρ) o.op = some (p, B)) (h : Run tbl prim ext (.dl m st B (m + 1) l (Env.put ρ o.dst p) B ρ' st')) : Run tbl prim ext (.dl m st B m (o :: l) ρ st ρ' st')
  | dlRaw (m o l ρ st f xs g caps q τ r st1 ρ' st') (hg : gd (getA · ρ) o.guard = some true) (ho : o.op = .call f xs) (hf : f.ev ρ = .func g caps) (hp : Parts st q τ) (hb : st1.base = st.next) (hc : Run tbl prim ext (.raw g (xs.map (Opd.ev ρ) ++ caps) (partSt st τ) r st1))
      (h : Run tbl prim ext (.dl m st (joinSt st q st1) (m + 1) l (Env.put ρ o.dst r) (joinSt st q st1) ρ' st')) : Run tbl prim ext (.dl m st (joinSt st q st1) m (o :: l) ρ st ρ' st')
  | drawnL2 (m1 m2 d B C l kill ρ st ρ' st') (hm : m1 < m2) (h : Run tbl prim ext (.dl2 m1 m2 d st B C 0 l ρ st ρ' st')) : Run tbl prim ext (.code (.drawn l kill) ρ st .normal (dropA kill ρ') st')
  | dl2Nil (m1 m2 d A B C k ρ st) : Run tbl prim ext (.dl2 m1 m2 d A B C k [] ρ st ρ st)
  | dl2Skip (m1 m2 d A B C k o l ρ st ρ' st') (hk1 : k ≠ m1) (hk2 : k ≠ m2) (hs : st = A ∨ st = B ∨ st = C) (hg : gd (getA · ρ) o.guard = some false) (h : Run tbl prim ext (.dl2 m1 m2 d A B C (k + 1) l (Env.put ρ o.dst (.tuple [])) st ρ' st')) : Run tbl prim ext (.dl2 m1 m2 d A B C k (o :: l) ρ st ρ' st')
  | dl2Quiet (m1 m2 d A B C k o l ρ st p ρ' st') (hk1 : k ≠ m1) (hk2 : k ≠ m2) (hs : st = A ∨ st = B ∨ st = C) (hg : gd (getA · ρ) o.guard = some true) (hq : ∀ s, s = A ∨ s = B ∨ s = C → quiet s.get (Opd.ev ρ) o.op = some p) (h : Run tbl prim ext (.dl2 m1 m2 d A B C (k + 1) l (Env.put ρ o.dst p) st ρ' st')) : Run tbl prim ext (.dl2 m1 m2 d A B C k (o :: l) ρ st ρ' st')
  | dl2Call (m1 m2 d A B C k o l ρ st f xs g caps args r ρ' st') (hk1 : k ≠ m1) (hk2 : k ≠ m2) (hs : st = A ∨ st = B ∨ st = C) (hg : gd (getA · ρ) o.guard = some true) (ho : o.op = .call f xs) (hf : f.ev ρ = .func g caps) (hv : ∀ s, s = A ∨ s = B ∨ s = C → ViewL false s.get (xs.map (Opd.ev ρ) ++ caps) args) (hc : Run tbl prim ext (.call g args r))
      (h : Run tbl prim ext (.dl2 m1 m2 d A B C (k + 1) l (Env.put ρ o.dst r) st ρ' st')) : Run tbl prim ext (.dl2 m1 m2 d A B C k (o :: l) ρ st ρ' st')
  | dl2Loud1 (m1 m2 d B C o l ρ st p ρ' st') (hd : o.dst = some d) (hg : gd (getA · ρ) o.guard = some true) (hq : loud st (Opd.ev ρ) o.op = some (p, B)) (h : Run tbl prim ext (.dl2 m1 m2 d st B C (m1 + 1) l (Env.put ρ o.dst p) B ρ' st')) : Run tbl prim ext (.dl2 m1 m2 d st B C m1 (o :: l) ρ st ρ' st')
  | dl2Raw1 (m1 m2 d C o l ρ st f xs g caps q τ r st1 ρ' st') (hd : o.dst = some d) (hg : gd (getA · ρ) o.guard = some true) (ho : o.op = .call f xs) (hf : f.ev ρ = .func g caps) (hp : Parts st q τ) (hb : st1.base = st.next) (hc : Run tbl prim ext (.raw g (xs.map (Opd.ev ρ) ++ caps) (partSt st τ) r st1))
      (h : Run tbl prim ext (.dl2 m1 m2 d st (joinSt st q st1) C (m1 + 1) l (Env.put ρ o.dst r) (joinSt st q st1) ρ' st')) : Run tbl prim ext (.dl2 m1 m2 d st (joinSt st q st1) C m1 (o :: l) ρ st ρ' st')
  | dl2Loud2 (m1 m2 d A C o l ρ st p ρ' st') (hd : d ∈ o.tmps) (hg : gd (getA · ρ) o.guard = some true) (hq : loud st (Opd.ev ρ) o.op = some (p, C)) (h : Run tbl prim ext (.dl2 m1 m2 d A st C (m2 + 1) l (Env.put ρ o.dst p) C ρ' st')) : Run tbl prim ext (.dl2 m1 m2 d A st C m2 (o :: l) ρ st ρ' st')
  | dl2Raw2 (m1 m2 d A o l ρ st f xs g caps q τ r st1 ρ' st') (hd : d ∈ o.tmps) (hg : gd (getA · ρ) o.guard = some true) (ho : o.op = .call f xs) (hf : f.ev ρ = .func g caps) (hp : Parts st q τ) (hb : st1.base = st.next) (hc : Run tbl prim ext (.raw g (xs.map (Opd.ev ρ) ++ caps) (partSt st τ) r st1))
      (h : Run tbl prim ext (.dl2 m1 m2 d A st (joinSt st q st1) (m2 + 1) l (Env.put ρ o.dst r) (joinSt st q st1) ρ' st')) : Run tbl prim ext (.dl2 m1 m2 d A st (joinSt st q st1) m2 (o :: l) ρ st ρ' st')
  | drawnLi (m1 m2 S l kill ρ ρ' b c) (h : Run tbl prim ext (.dli m1 m2 S 0 l ρ false false ρ' b c)) : Run tbl prim ext (.code (.drawn l kill) ρ (S false false) .normal (dropA kill ρ') (S b c))
  | dliNil (m1 m2 S k ρ b c) : Run tbl prim ext (.dli m1 m2 S k [] ρ b c ρ b c)
  | dliSkip (m1 m2 S k o l ρ b c ρ' b' c') (hk1 : k ≠ m1) (hk2 : k ≠ m2) (hg : gd (getA · ρ) o.guard = some false) (h : Run tbl prim ext (.dli m1 m2 S (k + 1) l (Env.put ρ o.dst (.tuple [])) b c ρ' b' c')) : Run tbl prim ext (.dli m1 m2 S k (o :: l) ρ b c ρ' b' c')
  | dliQuiet (m1 m2 S k o l ρ b c p ρ' b' c') (hk1 : k ≠ m1) (hk2 : k ≠ m2) (hg : gd (getA · ρ) o.guard = some true) (hq : ∀ x y, quiet (S x y).get (Opd.ev ρ) o.op = some p) (h : Run tbl prim ext (.dli m1 m2 S (k + 1) l (Env.put ρ o.dst p) b c ρ' b' c')) : Run tbl prim ext (.dli m1 m2 S k (o :: l) ρ b c ρ' b' c')
  | dliLoud1 (m2 S k o l ρ c p ρ' b' c') (hg : gd (getA · ρ) o.guard = some true) (hq : ∀ y, loud (S false y) (Opd.ev ρ) o.op = some (p, S true y)) (h : Run tbl prim ext (.dli k m2 S (k + 1) l (Env.put ρ o.dst p) true c ρ' b' c')) : Run tbl prim ext (.dli k m2 S k (o :: l) ρ false c ρ' b' c')
  | dliLoud2 (m1 S k o l ρ b p ρ' b' c') (hg : gd (getA · ρ) o.guard = some true) (hq : ∀ x, loud (S x false) (Opd.ev ρ) o.op = some (p, S x true)) (h : Run tbl prim ext (.dli m1 k S (k + 1) l (Env.put ρ o.dst p) b true ρ' b' c')) : Run tbl prim ext (.dli m1 k S k (o :: l) ρ b false ρ' b' c')
  | drawnLc (C l kill ρ ρ' b i) (hf : C.float b i = false) (h : Run tbl prim ext (.dlc C 0 l ρ false 0 ρ' b i)) : Run tbl prim ext (.code (.drawn l kill) ρ (C.S 0) .normal (dropA kill ρ') (C.S i))
  | dlcNil (C k ρ b i) : Run tbl prim ext (.dlc C k [] ρ b i ρ b i)
  | dlcSkip (C k o l ρ b i ρ' b' i') (hx : C.idx k = none) (hw : C.away k o = true) (hg : gd (getA · ρ) o.guard = some false) (h : Run tbl prim ext (.dlc C (k + 1) l (Env.put ρ o.dst (.tuple [])) b i ρ' b' i')) : Run tbl prim ext (.dlc C k (o :: l) ρ b i ρ' b' i')
  | dlcQuiet (C k o l ρ b i p ρ' b' i') (hx : C.idx k = none) (hw : C.away k o = true) (hg : gd (getA · ρ) o.guard = some true) (hq : ∀ j, quiet (C.S j).get (Opd.ev ρ) o.op = some p) (h : Run tbl prim ext (.dlc C (k + 1) l (Env.put ρ o.dst p) b i ρ' b' i')) : Run tbl prim ext (.dlc C k (o :: l) ρ b i ρ' b' i')
  | dlcEarly (C k o l ρ b i m d p ρ' b' i') (hx : C.idx k = none) (hw : C.away k o = true) (hd : o.dst = some d) (hn : d ∈ C.need m) (hm : i ≤ m) (hg : gd (getA · ρ) o.guard = some true) (hq : ∀ j, j ≤ m → quiet (C.S j).get (Opd.ev ρ) o.op = some p) (h : Run tbl prim ext (.dlc C (k + 1) l (Env.put ρ o.dst p) b i ρ' b' i')) : Run tbl prim ext (.dlc C k (o :: l) ρ b i ρ' b' i')
  | dlcCall (C k o l ρ b i f xs g caps args r ρ' b' i') (hx : C.idx k = none) (hw : C.away k o = true) (hg : gd (getA · ρ) o.guard = some true) (ho : o.op = .call f xs) (hf : f.ev ρ = .func g caps) (hv : ∀ j, ViewL false (C.S j).get (xs.map (Opd.ev ρ) ++ caps) args) (hc : Run tbl prim ext (.call g args r))
      (h : Run tbl prim ext (.dlc C (k + 1) l (Env.put ρ o.dst r) b i ρ' b' i')) : Run tbl prim ext (.dlc C k (o :: l) ρ b i ρ' b' i')
  | dlcLoud (C k o l ρ b i p ρ' b' i') (hx : C.idx k = some i) (hw : C.away k o = true) (hl : C.link i o = true) (hd : o.dst = C.d i) (hs : C.stores i = false) (hg : gd (getA · ρ) o.guard = some true) (hq : loud (C.S i) (Opd.ev ρ) o.op = some (p, C.S (i + 1))) (h : Run tbl prim ext (.dlc C (k + 1) l (Env.put ρ o.dst p) b (i + 1) ρ' b' i')) : Run tbl prim ext (.dlc C k (o :: l) ρ b i ρ' b' i')
  | dlcMove (C k o l ρ b i p ρ' b' i') (hx : C.idx k = some i) (hw : C.away k o = true) (hl : C.link i o = true) (hd : o.dst = C.d i) (hs : C.stores i = false) (hg : gd (getA · ρ) o.guard = some true) (hS : C.S (i + 1) = C.S i) (hq : quiet (C.S i).get (Opd.ev ρ) o.op = some p) (h : Run tbl prim ext (.dlc C (k + 1) l (Env.put ρ o.dst p) b (i + 1) ρ' b' i')) : Run tbl prim ext (.dlc C k (o :: l) ρ b i ρ' b' i')
  | dlcMCall (C k o l ρ b i f xs g caps args r ρ' b' i') (hx : C.idx k = some i) (hw : C.away k o = true) (hl : C.link i o = true) (hd : o.dst = C.d i) (hs : C.stores i = false) (hg : gd (getA · ρ) o.guard = some true) (hS : C.S (i + 1) = C.S i) (ho : o.op = .call f xs) (hf : f.ev ρ = .func g caps) (hv : ViewL false (C.S i).get (xs.map (Opd.ev ρ) ++ caps) args) (hc : Run tbl prim ext (.call g args r))
      (h : Run tbl prim ext (.dlc C (k + 1) l (Env.put ρ o.dst r) b (i + 1) ρ' b' i')) : Run tbl prim ext (.dlc C k (o :: l) ρ b i ρ' b' i')
  | dlcRaw (C k o l ρ b i f xs g caps q τ r st1 ρ' b' i') (hx : C.idx k = some i) (hw : C.away k o = true) (hl : C.link i o = true) (hd : o.dst = C.d i) (hs : C.stores i = false) (hg : gd (getA · ρ) o.guard = some true) (ho : o.op = .call f xs) (hf : f.ev ρ = .func g caps) (hp : Parts (C.S i) q τ) (hb : st1.base = (C.S i).next) (hS : C.S (i + 1) = joinSt (C.S i) q st1) (hc : Run tbl prim ext (.raw g (xs.map (Opd.ev ρ) ++ caps) (partSt (C.S i) τ) r st1))
      (h : Run tbl prim ext (.dlc C (k + 1) l (Env.put ρ o.dst r) b (i + 1) ρ' b' i')) : Run tbl prim ext (.dlc C k (o :: l) ρ b i ρ' b' i')
  | dlcAlloc (C k o l ρ i d m cs ρ' b' i') (ha : C.al = some (k, d, m, cs)) (hx : C.idx k = none) (hd : o.dst = some d) (hg : o.guard = none) (ho : o.op = .alloc cs) (hm : i ≤ m) (h : Run tbl prim ext (.dlc C (k + 1) l (Env.put ρ o.dst (.ptr (C.S m).next 0)) true i ρ' b' i')) : Run tbl prim ext (.dlc C k (o :: l) ρ false i ρ' b' i')
  | dlcStore (C k o l ρ i ka d cs p ρ' b' i') (ha : C.al = some (ka, d, i, cs)) (hx : C.idx k = some i) (hl : C.link i o = true) (hdt : d ∈ o.tmps) (hd : o.dst ≠ some d) (hdd : o.dst = C.d i) (hg : gd (getA · ρ) o.guard = some true) (hq : loud ((C.S i).new (.var cs)) (Opd.ev ρ) o.op = some (p, C.S (i + 1))) (h : Run tbl prim ext (.dlc C (k + 1) l (Env.put ρ o.dst p) true (i + 1) ρ' b' i')) : Run tbl prim ext (.dlc C k (o :: l) ρ true i ρ' b' i')
  | drawnB (C l kill ρ ρ' st') (hA : C.A.next ≤ C.N) (hB : C.B.next ≤ C.N) (hN : st'.next = C.N) (hD : ∀ e ∈ C.D, getA e ρ' = some (.ptr C.N 0)) (h : Run tbl prim ext (.dlb C 0 l ρ C.A false ρ' st' true)) : Run tbl prim ext (.code (.drawn l kill) ρ C.A .normal (dropA kill ρ') (st'.new (.var C.cs)))
  | dlbNil (C k ρ st b) : Run tbl prim ext (.dlb C k [] ρ st b ρ st b)
  | dlbSkip (C k o l ρ st b ρ' st' b') (hk : k ≠ C.m) (hw : C.away o = true) (hs : st = C.A ∨ st = C.B) (hg : gd (getA · ρ) o.guard = some false) (h : Run tbl prim ext (.dlb C (k + 1) l (Env.put ρ o.dst (.tuple [])) st b ρ' st' b')) : Run tbl prim ext (.dlb C k (o :: l) ρ st b ρ' st' b')
  | dlbQuiet (C k o l ρ st b p ρ' st' b') (hk : k ≠ C.m) (hw : C.away o = true) (hs : st = C.A ∨ st = C.B) (hg : gd (getA · ρ) o.guard = some true) (hq : ∀ s, s = C.A ∨ s = C.B → quiet s.get (Opd.ev ρ) o.op = some p) (h : Run tbl prim ext (.dlb C (k + 1) l (Env.put ρ o.dst p) st b ρ' st' b')) : Run tbl prim ext (.dlb C k (o :: l) ρ st b ρ' st' b')
  | dlbCall (C k o l ρ st b f xs g caps args r ρ' st' b') (hk : k ≠ C.m) (hw : C.away o = true) (hs : st = C.A ∨ st = C.B) (hg : gd (getA · ρ) o.guard = some true) (ho : o.op = .call f xs) (hf : f.ev ρ = .func g caps) (hv : ∀ s, s = C.A ∨ s = C.B → ViewL false s.get (xs.map (Opd.ev ρ) ++ caps) args) (hc : Run tbl prim ext (.call g args r))
      (h : Run tbl prim ext (.dlb C (k + 1) l (Env.put ρ o.dst r) st b ρ' st' b')) : Run tbl prim ext (.dlb C k (o :: l) ρ st b ρ' st' b')
  | dlbLoud (C o l ρ b p ρ' st' b') (hw : C.away o = true) (hg : gd (getA · ρ) o.guard = some true) (hq : loud C.A (Opd.ev ρ) o.op = some (p, C.B)) (h : Run tbl prim ext (.dlb C (C.m + 1) l (Env.put ρ o.dst p) C.B b ρ' st' b')) : Run tbl prim ext (.dlb C C.m (o :: l) ρ C.A b ρ' st' b')
  | dlbRaw (C o l ρ b f xs g caps q τ r st1 ρ' st' b') (hw : C.away o = true) (hg : gd (getA · ρ) o.guard = some true) (ho : o.op = .call f xs) (hf : f.ev ρ = .func g caps) (hp : Parts C.A q τ) (hb : st1.base = C.A.next) (hS : C.B = joinSt C.A q st1) (hc : Run tbl prim ext (.raw g (xs.map (Opd.ev ρ) ++ caps) (partSt C.A τ) r st1))
      (h : Run tbl prim ext (.dlb C (C.m + 1) l (Env.put ρ o.dst r) C.B b ρ' st' b')) : Run tbl prim ext (.dlb C C.m (o :: l) ρ C.A b ρ' st' b')
  | dlbBox (C k o l ρ st x ρ' st' b') (hs : st = C.A ∨ st = C.B) (hg : o.guard = none) (hd : o.dst = some C.d) (hdD : C.d ∈ C.D) (ho : o.op = .box x) (hx : ∀ t ∈ x.tmps, t ∉ C.D) (hj : (x.ev ρ).isJunk = false) (hcs : (x.ev ρ).cells = C.cs) (hv : ∀ look, ∀ c ∈ C.cs, View false look c c)
      (h : Run tbl prim ext (.dlb C (k + 1) l (Env.put ρ o.dst (.ptr C.N 0)) st true ρ' st' b')) : Run tbl prim ext (.dlb C k (o :: l) ρ st false ρ' st' b')
  | dlbMove (C k o l ρ st e ρ' st' b') (hs : st = C.A ∨ st = C.B) (hg : o.guard = none) (hd : o.dst = some e) (heD : e ∈ C.D) (hne : e ≠ C.d) (hdD : C.d ∈ C.D) (ho : o.op = .move (.t C.d)) (hy : getA C.d ρ = some (.ptr C.N 0))
      (h : Run tbl prim ext (.dlb C (k + 1) l (Env.put ρ o.dst (.ptr C.N 0)) st true ρ' st' b')) : Run tbl prim ext (.dlb C k (o :: l) ρ st true ρ' st' b')
  | call (f pf args x ρ' st' r0 r) (hf : tbl f = some pf) (hn : args.length ≤ pf.ntmps) (h : Run tbl prim ext (.code pf.body (envFrom 0 args) emptySt x ρ' st')) (hx : x = .normal ∨ x = .ret) (hr : resOf ρ' st'.get pf.results = some r0) (hv : View true st'.get r0 r) : Run tbl prim ext (.call f args r)
  | prim (f args r) (h : prim f args r) : Run tbl prim ext (.call f args r)
  | raw (f pf args st x ρ' st' r) (hf : tbl f = some pf) (hn : args.length ≤ pf.ntmps) (h : Run tbl prim ext (.code pf.body (envFrom 0 args) st x ρ' st')) (hx : x = .normal ∨ x = .ret) (hr : resOf ρ' st'.get pf.results = some r) : Run tbl prim ext (.raw f args st r st')
end Go.AM
set_option linter.unusedVariables false
set_option linter.unusedSimpArgs false
namespace Go.AM
open Go.RowKit
variable [Gl]
def wpIn (P : Program) (c : Code) (Q : Exit → Act → World → Prop) (a : Act) (w : World) : Prop :=
  ∀ (b : Frame) (k : List Item) (cs : List Frame), ∃ e a' w', Q e a' w' ∧ Arrives P (lone (b.at a (.code c :: .inLoop c :: k)) cs w) b k cs e a' w'
theorem wp_of_wpIn {P : Program} {c : Code} {Q : Exit → Act → World → Prop} {a : Act} {w : World} (h : wpIn P c Q a w) : (Code.loop c).wp P Q a w := by
  intro b k cs
  obtain ⟨e, a', w', hq, harr⟩ := h b k cs
  exact ⟨e, a', w', hq, .of_steps (.one step_loop) harr⟩
theorem wpIn_unroll {P : Program} {c : Code} {Q : Exit → Act → World → Prop} {a : Act} {w : World} (h : c.wp P (Exit.then (wpIn P c Q) Q) a w) : wpIn P c Q a w := by
  intro b k cs
  obtain ⟨e, a₁, w₁, hq, harr⟩ := h b (.inLoop c :: k) cs
  cases e with
  | normal =>
    obtain ⟨e₂, a₂, w₂, hq₂, harr₂⟩ := hq b k cs
    exact ⟨e₂, a₂, w₂, hq₂, .of_steps (Steps.trans harr (.one step_inLoop)) harr₂⟩
  | exit id => exact ⟨_, a₁, w₁, hq, .pass (x := .inLoop c) rfl (fun _ _ => .inl (by simp)) harr⟩
  | goto l => exact ⟨_, a₁, w₁, hq, .pass (x := .inLoop c) rfl (fun _ _ => .inl (by simp)) harr⟩
  | ret => exact ⟨_, a₁, w₁, hq, .pass (x := .inLoop c) rfl (fun _ _ => .inl (by simp)) harr⟩
  | panic ch => exact ⟨_, a₁, w₁, hq, .pass (x := .inLoop c) rfl (fun _ _ => .inl (by simp)) harr⟩
  | outgrown => exact ⟨_, a₁, w₁, hq, .pass (x := .inLoop c) rfl (fun _ _ => .inl (by simp)) harr⟩
def Enters (P : Program) (f : Nat) : Prop := ∃ fn c, P.funcs[f]? = some fn ∧ fn.body = some c ∧ (fn.name == "runtime.NumGoroutine") = false
def SemCall (P : Program) (f : Nat) (args : List PV) (r : PV) : Prop :=
  Enters P f ∧ ∀ (F : Nat → Prop) (w : World) (vals : Array Value), (∀ b, F b → b < w.heap.size) → Gl.ok w → vals.size = args.length → (∀ (i : Nat) (c : PV), args[i]? = some c → Rep noG F w (vals.getD i undef) c) →
    Calls P f vals w (fun e w' => ∃ u, e = .returned u ∧ Below w.heap.size w w' ∧ Rep noG F w' u r)
def SemRaw (P : Program) (f : Nat) (args : List PV) (st : St) (r : PV) (st' : St) : Prop :=
  Enters P f ∧ ∀ (X : Cx) (G : Gh) (w : World) (vals : Array Value), Inv X st G w → vals.size = args.length → (∀ (i : Nat) (c : PV), args[i]? = some c → Rep G (OwnF X st G) w (vals.getD i undef) c) →
    Calls P f vals w (fun e w' => ∃ u, e = .returned u ∧ ∃ G', Inv X st' G' w' ∧ Rep G' (OwnF X st' G') w' u r)
def SemExt (P : Program) (f : Nat) (args : List PV) (r : PV) : Prop :=
  ∀ (F : Nat → Prop) (w : World) (vals : Array Value), vals.size = args.length → (∀ (i : Nat) (c : PV), args[i]? = some c → Rep noG F w (vals.getD i undef) c) →
    ∃ u w', (callFunc f vals).run P w = .ok (.value u) w' ∧ Below w.heap.size w w' ∧ Rep noG F w' u r
def exC : EX → Exit
  | .normal => .normal
  | .exit id => .exit id
  | .ret => .ret
def PostC (X : Cx) (n : Nat) (x : EX) (ρ' : Env) (st' : St) : Exit → Act → World → Prop :=
  fun e a' w' => e = exC x ∧ ∃ G', Inv X st' G' w' ∧ EnvRep G' (OwnF X st' G') w' n ρ' a'
def SemCode (P : Program) (c : PC) (ρ : Env) (st : St) (x : EX) (ρ' : Env) (st' : St) : Prop :=
  ∀ (n : Nat) (kill : Nat → List Nat) (gc : Code), cCode P n kill gc = some c → ∀ (X : Cx) (G : Gh) (w : World) (a : Act), Inv X st G w → EnvRep G (OwnF X st G) w n ρ a →
    gc.wp P (PostC X n x ρ' st') a w ∧ ∀ c0, gc = .loop c0 → wpIn P c0 (PostC X n x ρ' st') a w
def SemOps (P : Program) (l : List POp) (ρ : Env) (st : St) (ρ' : Env) (st' : St) : Prop :=
  ∀ (n : Nat) (ops : Array Oper) (lo : List Oper), cOps P ops n lo = some l → ∀ (X : Cx) (G : Gh) (w : World) (a : Act) (Q : Exit → Act → World → Prop), Inv X st G w → EnvRep G (OwnF X st G) w n ρ a →
    (∀ G' w' a', Inv X st' G' w' → EnvRep G' (OwnF X st' G') w' n ρ' a' → Q .normal a' w') → wpList P ops Q lo a w
section
variable {P : Program} {X : Cx} {st : St} {G : Gh} {own : Nat → Prop} {w : World} {n : Nat} {ρ : Env} {a : Act}
theorem gd_wanted (hE : EnvRep G own w n ρ a) {ops : Array Oper} {o : Oper} {g : Option (Nat × Bool)} (hc : cGuard ops o.guard = some g) {b : Bool} (hg : gd (getA · ρ) g = some b) : Region.wanted o (yielded ops a.tmps) = b := by
  unfold Region.wanted
  cases hgu : o.guard with
  | none =>
    rw [hgu] at hc
    injection hc with hc
    subst hc
    injection hg with hg
  | some jw =>
    obtain ⟨j, want⟩ := jw
    rw [hgu] at hc
    simp only [cGuard] at hc
    split at hc
    · rename_i t ht
      injection hc with hc
      subst hc
      simp only [gd] at hg
      simp only [yielded, ht, Option.bind_some]
      split at hg
      · rename_i b' hb'
        injection hg with hg
        have hr := hE.reps t _ hb'
        have hv : a.tmps[t]? = some (.bool b') := by
          rw [Array.getD_eq_getD_getElem?] at hr
          cases ht2 : a.tmps[t]? with
          | none => rw [ht2] at hr; simp [undef] at hr; cases hr
          | some v => rw [ht2] at hr; simp at hr; rw [rep_bool hr]
        rw [hv]
        simp only
        rw [← hg]
        cases b' <;> cases want <;> rfl
      · rename_i hb'
        injection hg with hg
        have hr := hE.reps t _ hb'
        have hv : a.tmps[t]? = none ∨ a.tmps[t]? = some undef := by
          rw [Array.getD_eq_getD_getElem?] at hr
          cases ht2 : a.tmps[t]? with
          | none => exact .inl rfl
          | some v =>
            rw [ht2] at hr
            simp at hr
            obtain ⟨vs, hvs, hs, _⟩ := rep_tuple hr
            have : vs = #[] := Array.eq_empty_of_size_eq_zero (by simpa using hs)
            subst this
            exact .inr (by rw [hvs]; rfl)
        rcases hv with hv | hv
        · rw [hv]
          subst hg
          rfl
        · rw [hv]
          subst hg
          simp [undef]
      · cases hg
    · cases hc
theorem dst_lt {d : Option Nat} (h : dstOk n d = true) : ∀ t, d = some t → t < n := by
  intro t ht
  subst ht
  simpa [dstOk] using h
theorem undef_rep : Rep G own w undef (.tuple []) := .tuple [] #[] rfl (fun i c h => by simp at h)
theorem run_callOp {fo : Operand} {args : Array Operand} {ts : Array TypeId} {o : Oper} (ho : o.op = .call { callee := .value fo, args := args, argTypes := ts }) {g : Nat} {vs : Array Value} (hf : a.eval fo = .func (.func g) #[] vs) :
    (execOp a.eval o).run P w = (callFunc g (args.map a.eval ++ vs)).run P w := by
  simp only [execOp, ho, resolve, hf, Deferred.ofValue]
  simp [invoke]
theorem run_enter {g : Nat} {fn : Func} {vals : Array Value} (hf : P.funcs[g]? = some fn) (hn : (fn.name == "runtime.NumGoroutine") = false) {c : Code} (hb : fn.body = some c) : (callFunc g vals).run P w = .ok (.enter g vals) w := by
  have : (fn.name = "runtime.NumGoroutine") = False := by
    apply propext
    constructor
    · intro h; rw [h] at hn; simp at hn
    · exact False.elim
  simp [callFunc, hf, this, hb]
theorem args_rep {hI : True} (hE : EnvRep G own w n ρ a) {args : Array Operand} {xs : List Opd} (hx : cOpds args.toList = some xs) {vs : Array Value} {caps : List PV} (hs : vs.size = caps.length) (hv : ∀ (i : Nat) (c : PV), caps[i]? = some c → Rep G own w (vs.getD i undef) c) :
    (args.map a.eval ++ vs).size = (xs.map (Opd.ev ρ) ++ caps).length ∧ ∀ (i : Nat) (c : PV), (xs.map (Opd.ev ρ) ++ caps)[i]? = some c → Rep G own w ((args.map a.eval ++ vs).getD i undef) c := by
  obtain ⟨h1, h2⟩ := opds_rep hE hx
  have hl : args.size = xs.length := by simpa using h1
  refine ⟨by simp [hl, hs], fun i c hc => ?_⟩
  rw [List.getElem?_append] at hc
  split at hc
  · rename_i hi
    have := h2 i c hc
    simp at hi
    rw [Array.getD_eq_getD_getElem?, Array.getElem?_append_left (by simpa [hl] using hi)]
    rw [List.getD_eq_getElem?_getD] at this
    simpa using this
  · rename_i hi
    simp at hi hc
    have := hv _ c hc
    rw [Array.getD_eq_getD_getElem?, Array.getElem?_append_right (by simpa [hl] using hi)]
    rw [Array.getD_eq_getD_getElem?] at this
    simpa [hl] using this
theorem scalar_rep {G' : Gh} {own' : Nat → Prop} {w' : World} {v : Value} {r : PV} (h : scalarR r = true) (hr : Rep G own w v r) : Rep G' own' w' v r := by
  have one : ∀ {v : Value} {r : PV}, scalar? r = true → Rep G own w v r → Rep G' own' w' v r := by
    intro v r h hr
    cases hr <;> first | (cases h; done) | exact .bool _ | exact .int _ _ | exact .str _
  unfold scalarR at h
  split at h
  · rename_i vs
    obtain ⟨us, rfl, hs, hrep⟩ := rep_tuple hr
    refine .tuple vs us hs fun i c hc => one ?_ (hrep i c hc)
    exact (List.all_eq_true.1 h) c (List.mem_of_getElem? hc)
  · exact one h hr
end
end Go.AM
set_option linter.unusedVariables false
set_option linter.unusedSimpArgs false
namespace Go.AM
open Go.RowKit
variable [Gl]
section
variable {P : Program} {X : Cx} {st : St} {G : Gh} {w : World} {n : Nat} {ρ : Env} {a : Act}
def After (X : Cx) (n : Nat) (st' : St) (ρ' : Env) (K : Act → World → Prop) : Prop := ∀ G' w' a', Inv X st' G' w' → EnvRep G' (OwnF X st' G') w' n ρ' a' → K a' w'
theorem wp_lok (hE : EnvRep G (OwnF X st G) w n ρ a) {o : Oper} {d : Option Nat} (hd : o.dst = d) (hn : dstOk n d = true) {p : PV} {st' : St} (h : LOk P X st G w o a p st') {K : Act → World → Prop} {Q : Exit → Act → World → Prop} (hK : After X n st' (Env.put ρ d p) K) : o.wp P a w K Q := by
  obtain ⟨nx, u, w', G', hrun, hans, hI', hla, hr⟩ := h
  subst hd
  have := hK G' w' (a.put o.dst u) hI' ((hla.env hE).put (dst_lt hn) hr)
  unfold Oper.wp
  rw [hrun]
  cases nx <;> simp [ansOf] at hans
  · subst hans; exact this
  · subst hans; exact this
theorem func_rep {own : Nat → Prop} {v : Value} {g : Nat} {caps : List PV} (h : Rep G own w v (.func g caps)) : ∃ vs : Array Value, v = .func (.func g) #[] vs ∧ vs.size = caps.length ∧ ∀ (i : Nat) (c : PV), caps[i]? = some c → Rep G own w (vs.getD i undef) c := by
  cases h with
  | func _ _ vs hs h => exact ⟨vs, rfl, hs, h⟩
theorem cOp_call {o : Oper} {f : Opd} {xs : List Opd} (h : cOp P o.op = some (.call f xs)) : ∃ fo args ts, o.op = .call { callee := .value fo, args := args, argTypes := ts } ∧ cOpd fo = some f ∧ cOpds args.toList = some xs := by
  have noBin : ∀ {b ts ys}, cBuiltin P b ts ys ≠ some (.call f xs) := by
    intro b ts ys hc
    unfold cBuiltin at hc
    split at hc
    · (repeat' split at hc) <;> first | (cases hc; done) | (obtain ⟨_, _, h⟩ := Option.map_eq_some_iff.1 hc; cases h)
    · (repeat' split at hc) <;> first | (cases hc; done) | (injection hc with hc; cases hc)
    · unfold cAppend at hc
      (repeat' split at hc) <;> first | (cases hc; done) | (injection hc with hc; cases hc)
    · unfold cCopy at hc
      (repeat' split at hc) <;> first | (cases hc; done) | (injection hc with hc; cases hc)
    · obtain ⟨_, _, h⟩ := Option.map_eq_some_iff.1 hc; cases h
    · obtain ⟨_, _, h⟩ := Option.map_eq_some_iff.1 hc; cases h
    · cases hc
  cases ho : o.op with
  | call c =>
    rw [ho] at h
    obtain ⟨callee, args, ts⟩ := c
    simp only [cOp] at h
    split at h
    · rename_i b hb
      exact absurd h noBin
    · rename_i fo
      split at h
      · rename_i f' xs' h1 h2
        injection h with h
        injection h with h3 h4
        subst h3 h4
        exact ⟨fo, args, ts, rfl, h1, h2⟩
      · cases h
    · cases h
  | move x => rw [ho] at h; obtain ⟨_, _, h⟩ := Option.map_eq_some_iff.1 h; cases h
  | assign x => rw [ho] at h; obtain ⟨_, _, h⟩ := Option.map_eq_some_iff.1 h; cases h
  | pick c x y => rw [ho] at h; simp only [cOp] at h; (repeat' split at h) <;> first | (cases h; done) | (injection h with h; cases h)
  | load t x => rw [ho] at h; simp only [cOp] at h; unfold cLoad at h; (repeat' split at h) <;> first | (cases h; done) | (injection h with h; cases h)
  | store t x y => rw [ho] at h; simp only [cOp] at h; unfold cStore at h; (repeat' split at h) <;> first | (cases h; done) | (injection h with h; cases h)
  | alloc t => rw [ho] at h; obtain ⟨_, _, h⟩ := Option.map_eq_some_iff.1 h; cases h
  | box t x => rw [ho] at h; obtain ⟨_, _, h⟩ := Option.map_eq_some_iff.1 h; cases h
  | build t ps => rw [ho] at h; simp only [cOp] at h; unfold cBuild at h; (repeat' split at h) <;> first | (cases h; done) | (obtain ⟨_, _, h⟩ := Option.map_eq_some_iff.1 h; cases h)
  | buildSlice t l ps => rw [ho] at h; simp only [cOp] at h; unfold cBuildSl at h; (repeat' split at h) <;> first | (cases h; done) | (obtain ⟨_, _, h⟩ := Option.map_eq_some_iff.1 h; cases h)
  | fieldAddr s x f => rw [ho] at h; simp only [cOp] at h; unfold cFieldAddr at h; (repeat' split at h) <;> first | (cases h; done) | (injection h with h; cases h)
  | field s x f => rw [ho] at h; simp only [cOp] at h; unfold cField at h; (repeat' split at h) <;> first | (cases h; done) | (injection h with h; cases h)
  | indexAddr t x i => rw [ho] at h; simp only [cOp] at h; unfold cIndexAddr at h; (repeat' split at h) <;> first | (cases h; done) | (injection h with h; cases h)
  | index t x i => rw [ho] at h; simp only [cOp] at h; unfold cIndex at h; (repeat' split at h) <;> first | (cases h; done) | (injection h with h; cases h)
  | slice t x lo hi mx => rw [ho] at h; simp only [cOp] at h; unfold cSlice at h; (repeat' split at h) <;> first | (cases h; done) | (injection h with h; cases h)
  | convert s t x => rw [ho] at h; simp only [cOp] at h; unfold cConv at h; (repeat' split at h) <;> first | (cases h; done) | (injection h with h; cases h)
  | unOp op t x => rw [ho] at h; simp only [cOp] at h; (repeat' split at h) <;> first | (cases h; done) | (obtain ⟨_, _, h⟩ := Option.map_eq_some_iff.1 h; cases h)
  | binOp op t x y t' => rw [ho] at h; simp only [cOp] at h; unfold cBin at h; (repeat' split at h) <;> first | (cases h; done) | (injection h with h; cases h)
  | extract x i => rw [ho] at h; obtain ⟨_, _, h⟩ := Option.map_eq_some_iff.1 h; cases h
  | makeInterface t x => rw [ho] at h; simp only [cOp] at h; (repeat' split at h) <;> first | (cases h; done) | (obtain ⟨_, _, h⟩ := Option.map_eq_some_iff.1 h; cases h)
  | makeFunc fn first caps => rw [ho] at h; simp only [cOp] at h; (repeat' split at h) <;> first | (cases h; done) | (obtain ⟨_, _, h⟩ := Option.map_eq_some_iff.1 h; cases h)
  | makeSlice t l c => rw [ho] at h; simp only [cOp] at h; unfold cMakeSl at h; (repeat' split at h) <;> first | (cases h; done) | (injection h with h; cases h)
  | nilCheck x => rw [ho] at h; obtain ⟨_, _, h⟩ := Option.map_eq_some_iff.1 h; cases h
  | makeMap t r => rw [ho] at h; cases r <;> cases h
  | lookup t x k ok => rw [ho] at h; simp only [cOp] at h; unfold cLook at h; (repeat' split at h) <;> first | (cases h; done) | (injection h with h; cases h)
  | mapUpdate t m k x => rw [ho] at h; simp only [cOp] at h; unfold cMapPut at h; (repeat' split at h) <;> first | (cases h; done) | (injection h with h; cases h)
  | insert t m k x => rw [ho] at h; simp only [cOp] at h; unfold cMapPut at h; (repeat' split at h) <;> first | (cases h; done) | (injection h with h; cases h)
  | _ => rw [ho] at h; cases h
theorem call_ready (hE : EnvRep G (OwnF X st G) w n ρ a) {o : Oper} {f : Opd} {xs : List Opd} (hc : cOp P o.op = some (.call f xs)) {g : Nat} {caps : List PV} (hf : f.ev ρ = .func g caps) :
    ∃ vals : Array Value, (execOp a.eval o).run P w = (callFunc g vals).run P w ∧ vals.size = (xs.map (Opd.ev ρ) ++ caps).length ∧ ∀ (i : Nat) (c : PV), (xs.map (Opd.ev ρ) ++ caps)[i]? = some c → Rep G (OwnF X st G) w (vals.getD i undef) c := by
  obtain ⟨fo, args, ts, ho, h1, h2⟩ := cOp_call hc
  have hr := opd_rep hE h1
  rw [hf] at hr
  obtain ⟨vs, hv, hs, hrep⟩ := func_rep hr
  obtain ⟨k1, k2⟩ := args_rep (hI := trivial) hE h2 hs hrep
  exact ⟨_, run_callOp ho hv, k1, k2⟩
theorem view_args (hI : Inv X st G w) {live : Bool} {own : Nat → Prop} (ho : ∀ b, own b → OwnF X st G b) (hlv : live = true → ∀ b, own b → X.F b) {xs ys : List PV} (hv : ViewL live st.get xs ys) {vals : Array Value} (hs : vals.size = xs.length) (hr : ∀ (i : Nat) (c : PV), xs[i]? = some c → Rep G (OwnF X st G) w (vals.getD i undef) c) :
    vals.size = ys.length ∧ ∀ (i : Nat) (c : PV), ys[i]? = some c → Rep noG own w (vals.getD i undef) c := by
  refine ⟨by rw [hs, hv.1], fun i c hc => ?_⟩
  obtain ⟨x, hx⟩ := get_some hv.1 hc
  exact view_rep hI ho hlv (hv.2 i x c hx hc) (hr i x hx)
theorem noG_rep {own own' : Nat → Prop} {v : Value} {r : PV} (h : Rep noG own w v r) (ho : ∀ b, own' b → own b) : Rep G own' w v r :=
  h.mono (fun t g L h => by cases h) (Chg.refl (fun _ => False) w) (fun b h => h.elim) (fun b h => .inl (ho b h))
theorem wp_call (hI : Inv X st G w) (hE : EnvRep G (OwnF X st G) w n ρ a) {o : Oper} {d : Option Nat} (hd : o.dst = d) (hn : dstOk n d = true) {f : Opd} {xs : List Opd} (hc : cOp P o.op = some (.call f xs)) {g : Nat} {caps : List PV} (hf : f.ev ρ = .func g caps) {args : List PV} {r : PV} (hs : SemCall P g args r)
    (hv : ViewL false st.get (xs.map (Opd.ev ρ) ++ caps) args ∨ (ViewL true st.get (xs.map (Opd.ev ρ) ++ caps) args ∧ scalarR r = true)) {K : Act → World → Prop} {Q : Exit → Act → World → Prop} (hK : ∀ w' a', Inv X st G w' → EnvRep G (OwnF X st G) w' n (Env.put ρ d r) a' → K a' w') : o.wp P a w K Q := by
  obtain ⟨vals, hrun, hsz, hrep⟩ := call_ready hE hc hf
  obtain ⟨⟨fn, c, e1, e2, e3⟩, hsem⟩ := hs
  subst hd
  have fin : ∀ (F : Nat → Prop), (∀ b, F b → b < w.heap.size) → vals.size = args.length → (∀ (i : Nat) (c : PV), args[i]? = some c → Rep noG F w (vals.getD i undef) c) → (∀ (u : Value) (w' : World), Rep noG F w' u r → Rep G (OwnF X st G) w' u r) → o.wp P a w K Q := by
    intro F hF h1 h2 h3
    unfold Oper.wp
    rw [hrun, run_enter e1 e3 e2, Oper.upon_enter]
    refine (hsem F w vals hF hI.gl h1 h2).mono fun e w' ⟨u, he, hb, hr⟩ => ?_
    subst he
    obtain ⟨k1, k2⟩ := inv_below hI hb
    exact hK w' _ k1 ((k2.env hE).put (dst_lt hn) (h3 u w' hr))
  rcases hv with hv | ⟨hv, hsc⟩
  · obtain ⟨k1, k2⟩ := view_args hI (own := OwnF X st G) (fun _ h => h) (fun h => by cases h) hv hsz hrep
    exact fin (OwnF X st G) (fun b hb => own_lt_size hI hb) k1 k2 (fun u w' hr => noG_rep hr (fun _ h => h))
  · obtain ⟨k1, k2⟩ := view_args hI (own := fun _ => False) (fun _ h => h.elim) (fun _ _ h => h.elim) hv hsz hrep
    exact fin (fun _ => False) (fun b hb => hb.elim) k1 k2 (fun u w' hr => scalar_rep hsc hr)
theorem wp_ext (hI : Inv X st G w) (hE : EnvRep G (OwnF X st G) w n ρ a) {o : Oper} {d : Option Nat} (hd : o.dst = d) (hn : dstOk n d = true) {f : Opd} {xs : List Opd} (hc : cOp P o.op = some (.call f xs)) {g : Nat} {caps : List PV} (hf : f.ev ρ = .func g caps) {args : List PV} {r : PV} (hs : SemExt P g args r)
    (hv : ViewL true st.get (xs.map (Opd.ev ρ) ++ caps) args) (hsc : scalarR r = true) {K : Act → World → Prop} {Q : Exit → Act → World → Prop} (hK : After X n st (Env.put ρ d r) K) : o.wp P a w K Q := by
  obtain ⟨vals, hrun, hsz, hrep⟩ := call_ready hE hc hf
  subst hd
  obtain ⟨k1, k2⟩ := view_args hI (own := fun _ => False) (fun _ h => h.elim) (fun _ _ h => h.elim) hv hsz hrep
  obtain ⟨u, w', e1, e2, e3⟩ := hs (fun _ => False) w vals k1 k2
  unfold Oper.wp
  rw [hrun, e1, Oper.upon_value]
  obtain ⟨m1, m2⟩ := inv_below hI e2
  exact hK G w' _ m1 ((m2.env hE).put (dst_lt hn) (scalar_rep hsc e3))
theorem ownF_join (hI : Inv X st G w) {q τ : List (Nat × Tok)} (hp : Parts st q τ) {st1 : St} {G1 : Gh} {w1 : World} (hI1 : Inv (partCx X st G w q τ) st1 G1 w1) {b : Nat} (h : OwnF X (joinSt st q st1) G1 b) : OwnF (partCx X st G w q τ) st1 G1 b := by
  rcases h with h | ⟨t, k, L, h1, h2, h3, h4⟩
  · exact .inl (.inl h)
  · unfold St.get joinSt at h1
    rw [getA_append] at h1
    split at h1
    · rename_i k' hk
      injection h1 with h1
      subst h1
      refine .inl (.inr ⟨t, k', L, hk, h2, ?_, h4⟩)
      rcases hI1.newg t _ L h3 with h5 | ⟨k2, h5⟩ | h5
      · exact h5
      · rcases (hp t).2 with h6 | h6
        · rw [hk] at h6; cases h6
        · rw [h5] at h6; cases h6
      · have hlt := get_lt hI (parts_q hp hk)
        exact absurd hlt (by
          intro hlt
          have hold := hI.toks t k' (parts_q hp hk)
          have : ∃ L0, G t k'.gen = some L0 := by
            cases k' with
            | var cs => obtain ⟨L0, e, _⟩ := hold; exact ⟨L0, e⟩
            | row g sz es lv => obtain ⟨L0, e, _⟩ := hold; exact ⟨L0, e⟩
            | mp es => obtain ⟨L0, _, _, e, _⟩ := hold; exact ⟨L0, e⟩
          obtain ⟨L0, e0⟩ := this
          have := (hI1.old t k'.gen L0 e0).1
          omega)
    · exact .inr ⟨t, k, L, h1, h2, h3, h4⟩
theorem wp_raw (hI : Inv X st G w) (hE : EnvRep G (OwnF X st G) w n ρ a) {o : Oper} {d : Option Nat} (hd : o.dst = d) (hn : dstOk n d = true) {f : Opd} {xs : List Opd} (hc : cOp P o.op = some (.call f xs)) {g : Nat} {caps : List PV} (hf : f.ev ρ = .func g caps) {q τ : List (Nat × Tok)} (hp : Parts st q τ) {r : PV} {st1 : St} (hb : st1.base = st.next)
    (hs : SemRaw P g (xs.map (Opd.ev ρ) ++ caps) (partSt st τ) r st1) {K : Act → World → Prop} {Q : Exit → Act → World → Prop} (hK : After X n (joinSt st q st1) (Env.put ρ d r) K) : o.wp P a w K Q := by
  obtain ⟨vals, hrun, hsz, hrep⟩ := call_ready hE hc hf
  obtain ⟨⟨fn, c, e1, e2, e3⟩, hsem⟩ := hs
  subst hd
  unfold Oper.wp
  rw [hrun, run_enter e1 e3 e2, Oper.upon_enter]
  refine (hsem (partCx X st G w q τ) G w vals (inv_part hI hp) hsz (fun i c hc => by rw [ownF_part hp]; exact hrep i c hc)).mono fun e w' ⟨u, he, G', hI1, hr⟩ => ?_
  subst he
  obtain ⟨k1, k2⟩ := inv_join hI hp hb hI1
  refine hK G' w' _ k1 ((k2.env hE).put (dst_lt hn) ?_)
  exact hr.mono (fun _ _ _ h => h) (Chg.refl (fun _ => False) w') (fun b h => h.elim) (fun b h => .inl (ownF_join hI hp hI1 h))
end
end Go.AM

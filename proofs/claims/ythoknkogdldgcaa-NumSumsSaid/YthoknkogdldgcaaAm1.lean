/- AM1: an abstract machine over plain data: values, code, and what a run of it is. -/
import Derived.Deep.Quiet
import Derived.Below
import Derived.Maps.AppendAt
import Derived.KernelRfl
set_option linter.unusedVariables false
set_option linter.unusedSimpArgs false
namespace Go.AM
open Go.RowKit

/-- Plain values: what a machine value reads as. -/
inductive PV where
  | junk
  | bool (b : Bool)
  | int (k : IntKind) (n : Int)
  | str (s : List UInt8)
  | nilPtr
  | ptr (t off : Nat)
  | rptr (t gen i off : Nat)
  | iptr (cells : List PV) (off : Nat)
  | nilSl
  | sl (xs : List (List PV)) (full : Bool)
  | osl (t gen off len : Nat) (full : Bool)
  | vsl (t off sz len : Nat)
  | func (f : Nat) (caps : List PV)
  | nilFunc
  | iface (ty : Nat) (v : PV)
  | nilIface
  | agg (cs : List PV)
  | tuple (vs : List PV)
  deriving Inhabited

/-- What is known of a piece of memory of one's own: a variable's cells; a row's elements (live: it may be written). -/
inductive Tok where
  | var (cells : List PV)
  | row (gen sz : Nat) (elems : List (List PV)) (live : Bool)
  deriving Inhabited

structure St where
  base : Nat
  next : Nat
  toks : List (Nat × Tok)
  deriving Inhabited

def putA {α : Type} (t : Nat) (x : α) : List (Nat × α) → List (Nat × α)
  | [] => [(t, x)]
  | (k, v) :: r => if k = t then (t, x) :: r else (k, v) :: putA t x r
def getA {α : Type} (t : Nat) : List (Nat × α) → Option α
  | [] => none
  | (k, v) :: r => if k = t then some v else getA t r
def dropA {α : Type} (ts : List Nat) : List (Nat × α) → List (Nat × α)
  | [] => []
  | (k, v) :: r => if ts.contains k then dropA ts r else (k, v) :: dropA ts r

theorem getA_putA {α : Type} (t u : Nat) (x : α) : ∀ l : List (Nat × α), getA u (putA t x l) = if t = u then some x else getA u l
  | [] => by simp [putA, getA]
  | (k, v) :: r => by
    simp only [putA]
    by_cases h : k = t
    · subst h
      rw [if_pos rfl]
      simp only [getA]
      split <;> rfl
    · rw [if_neg h]
      simp only [getA]
      rw [getA_putA t u x r]
      by_cases h1 : k = u
      · subst h1
        rw [if_pos rfl, if_pos rfl, if_neg (fun e => h e.symm)]
      · rw [if_neg h1, if_neg h1]
theorem getA_dropA {α : Type} (ts : List Nat) (u : Nat) : ∀ l : List (Nat × α), getA u (dropA ts l) = if ts.contains u then none else getA u l
  | [] => by simp [dropA, getA]
  | (k, v) :: r => by
    simp only [dropA]
    by_cases h : ts.contains k = true
    · rw [if_pos h, getA_dropA ts u r]
      simp only [getA]
      by_cases h1 : k = u
      · subst h1; rw [if_pos h, if_pos h]
      · rw [if_neg h1]
    · rw [if_neg h]
      simp only [getA]
      by_cases h1 : k = u
      · subst h1; rw [if_pos rfl, if_pos rfl, if_neg h]
      · rw [if_neg h1, if_neg h1, getA_dropA ts u r]

abbrev Env := List (Nat × PV)
def Env.at (ρ : Env) (t : Nat) : PV := (getA t ρ).getD .junk
def Env.put (ρ : Env) (dst : Option Nat) (v : PV) : Env :=
  match dst with
  | some d => putA d v ρ
  | none => ρ
theorem Env.at_put (ρ : Env) (d t : Nat) (v : PV) : (ρ.put (some d) v).at t = if d = t then v else ρ.at t := by
  simp only [Env.at, Env.put, getA_putA]
  split <;> simp

/-- Operands. -/
inductive Opd where
  | t (n : Nat)
  | c (p : PV)
  deriving Inhabited
def Opd.ev (ρ : Env) : Opd → PV
  | .t n => ρ.at n
  | .c p => p

/-- Instructions, their types' sizes and places reckoned. -/
inductive PI where
  | move (x : Opd)
  | pick (c a b : Opd)
  | load (n : Nat) (agg : Bool) (a : Opd)
  | store (n : Nat) (a x : Opd)
  | alloc (cells : List PV)
  | box (x : Opd)
  | build (zero : List PV) (parts : List (Nat × Nat × Opd))
  | buildSl (sz : Nat) (zero : List (List PV)) (parts : List (Nat × Opd))
  | fieldAddr (x : Opd) (off : Nat)
  | field (x : Opd) (off n : Nat) (agg : Bool)
  | indexA (x ix : Opd) (len sz : Nat)
  | indexS (x ix : Opd) (sz : Nat)
  | indexStr (x ix : Opd)
  | sliceStr (x : Opd) (lo hi : Option Opd)
  | sliceSl (x : Opd) (sz : Nat) (lo hi mx : Option Opd)
  | sliceArr (x : Opd) (len sz : Nat) (lo hi mx : Option Opd)
  | conv (k : IntKind) (x : Opd)
  | toBytes (x : Opd)
  | toStr (x : Opd)
  | textId (x : Opd)
  | neg (x : Opd)
  | not (x : Opd)
  | bin (op : BinOp) (x y : Opd)
  | eqNil (neq : Bool) (kind : Nat) (x : Opd)
  | eqBool (neq : Bool) (x y : Opd)
  | eqAgg (neq : Bool) (x y : Opd)
  | extract (x : Opd) (i : Nat)
  | mkIface (ty : Nat) (x : Opd)
  | mkFunc (f : Nat) (caps : List Opd)
  | makeSl (sz : Nat) (zero : List PV) (bytes : Nat) (len cap : Opd)
  | nilCheck (x : Opd)
  | len (txt : Bool) (x : Opd)
  | cap (x : Opd)
  | append (sz bytes : Nat) (zero : List PV) (s x : Opd)
  | copy (sz : Nat) (d s : Opd)
  | minmax (max : Bool) (xs : List Opd)
  | call (f : Opd) (args : List Opd)
  deriving Inhabited

structure POp where
  dst : Option Nat
  guard : Option (Nat × Bool)
  op : PI
  deriving Inhabited

inductive PC where
  | skip
  | ops (l : List POp) (kill : List Nat)
  | drawn (l : List POp) (kill : List Nat)
  | seq (a b : PC)
  | cond (c : Opd) (a b : PC)
  | block (id : Nat) (c : PC)
  | loop (c : PC)
  | exit (id : Nat)
  | ret
  deriving Inhabited

inductive PRes where
  | tmp (t : Nat)
  | cell (a n : Nat) (agg : Bool)
  deriving Inhabited

structure PF where
  ntmps : Nat
  results : List PRes
  body : PC
  deriving Inhabited

/-! ### Values: what is read off -/
def PV.cells : PV → List PV
  | .agg cs => cs
  | v => [v]
def allOf (n : Nat) (es : List (List PV)) : Bool := es.all (·.length == n)
def slice? (cs : List PV) (off n : Nat) (agg : Bool) : Option PV :=
  if off + n ≤ cs.length then (if agg then some (.agg ((cs.drop off).take n)) else cs[off]?) else none

/-- The elements of a slice that is read. -/
def elemsOf (look : Nat → Option Tok) : PV → Option (List (List PV))
  | .nilSl => some []
  | .sl xs _ => some xs
  | .osl t g off len _ => match look t with
    | some (.row g' _ es _) => if g' = g ∧ off + len ≤ es.length then some ((es.drop off).take len) else none
    | _ => none
  | .vsl t off sz len => match look t with
    | some (.var cs) => if off + len * sz ≤ cs.length then some ((List.range len).map fun j => (cs.drop (off + j * sz)).take sz) else none
    | _ => none
  | _ => none
def lenOf : PV → Option Nat
  | .nilSl => some 0
  | .sl xs _ => some xs.length
  | .osl _ _ _ len _ => some len
  | .vsl _ _ _ len => some len
  | .str s => some s.length
  | _ => none
/-- The cells behind an address: the whole piece, and where in it. -/
def behind (look : Nat → Option Tok) : PV → Option (List PV × Nat)
  | .ptr t off => match look t with
    | some (.var cs) => some (cs, off)
    | _ => none
  | .rptr t g i off => match look t with
    | some (.row g' _ es _) => if g' = g then (es[i]?).map fun cs => (cs, off) else none
    | _ => none
  | .iptr cs off => some (cs, off)
  | _ => none
def loadAt (look : Nat → Option Tok) (n : Nat) (agg : Bool) (p : PV) : Option PV :=
  (behind look p).bind fun x => slice? x.1 x.2 n agg

def byteCells (s : List UInt8) : List (List PV) := s.map fun b => [.int .u8 b.toNat]
def bytesOf? : List (List PV) → Option (List UInt8)
  | [] => some []
  | [.int .u8 n] :: r => (bytesOf? r).map (UInt8.ofNat n.toNat :: ·)
  | _ :: _ => none

def bytesLess : List UInt8 → List UInt8 → Bool
  | _, [] => false
  | [], _ :: _ => true
  | a :: x, b :: y => a < b || (a == b && bytesLess x y)

def intBit (op : BinOp) (k : IntKind) (x y : Int) : Option Int :=
  let a := BitVec.ofInt k.bits x
  let b := BitVec.ofInt k.bits y
  match op with
  | .and => some (k.wrap (a &&& b).toNat)
  | .or => some (k.wrap (a ||| b).toNat)
  | .xor => some (k.wrap (a ^^^ b).toNat)
  | .andNot => some (k.wrap (a &&& ~~~b).toNat)
  | _ => none

/-- Is it nil? (kinds: 0 slices, 1 pointers, 2 functions, 3 interfaces) -/
def isNil (kind : Nat) : PV → Option Bool
  | .nilSl => if kind = 0 then some true else none
  | .sl _ _ => if kind = 0 then some false else none
  | .osl _ _ _ _ _ => if kind = 0 then some false else none
  | .vsl _ _ _ _ => if kind = 0 then some false else none
  | .nilPtr => if kind = 1 then some true else none
  | .ptr _ _ => if kind = 1 then some false else none
  | .rptr _ _ _ _ => if kind = 1 then some false else none
  | .iptr _ _ => if kind = 1 then some false else none
  | .nilFunc => if kind = 2 then some true else none
  | .func _ _ => if kind = 2 then some false else none
  | .nilIface => if kind = 3 then some true else none
  | .iface _ _ => if kind = 3 then some false else none
  | _ => none

def binInt (op : BinOp) (k : IntKind) (a b : Int) : Option PV :=
  match op with
  | .add => some (.int k (k.wrap (a + b)))
  | .sub => some (.int k (k.wrap (a - b)))
  | .mul => some (.int k (k.wrap (a * b)))
  | .quo => if b = 0 then none else some (.int k (k.wrap (a.tdiv b)))
  | .rem => if b = 0 then none else some (.int k (a.tmod b))
  | .shl => if b < 0 then none else some (.int k (k.wrap (a * 2 ^ (min b.toNat k.bits))))
  | .shr => if b < 0 then none else some (.int k (a.fdiv (2 ^ (min b.toNat k.bits))))
  | .and => some (.int k (k.wrap (BitVec.ofInt k.bits a &&& BitVec.ofInt k.bits b).toNat))
  | .or => some (.int k (k.wrap (BitVec.ofInt k.bits a ||| BitVec.ofInt k.bits b).toNat))
  | .xor => some (.int k (k.wrap (BitVec.ofInt k.bits a ^^^ BitVec.ofInt k.bits b).toNat))
  | .andNot => some (.int k (k.wrap (BitVec.ofInt k.bits a &&& ~~~(BitVec.ofInt k.bits b)).toNat))
  | .eql => some (.bool (decide (a = b)))
  | .neq => some (.bool (!decide (a = b)))
  | .lss => some (.bool (decide (a < b)))
  | .leq => some (.bool (decide (a ≤ b)))
  | .gtr => some (.bool (decide (b < a)))
  | .geq => some (.bool (decide (b ≤ a)))

def binStr (op : BinOp) (a b : List UInt8) : Option PV :=
  match op with
  | .add => if ((a.length + b.length : Nat) : Int) > 9223372036854775807 then none else some (.str (a ++ b))
  | .eql => some (.bool (decide (a = b)))
  | .neq => some (.bool (!decide (a = b)))
  | .lss => some (.bool (bytesLess a b))
  | .leq => some (.bool (bytesLess a b || decide (a = b)))
  | .gtr => some (.bool (!(bytesLess a b || decide (a = b))))
  | .geq => some (.bool (!bytesLess a b))
  | _ => none

def binOp? (op : BinOp) : PV → PV → Option PV
  | .int k a, .int k' b => if op = .shl ∨ op = .shr ∨ k = k' then binInt op k a b else none
  | .str a, .str b => binStr op a b
  | _, _ => none
def eqBool? : PV → PV → Option Bool
  | .bool a, .bool b => some (a == b)
  | _, _ => none

def neg? : PV → Option PV
  | .int k n => some (.int k (k.wrap (0 - n)))
  | _ => none
def not? : PV → Option PV
  | .bool b => some (.bool (!b))
  | _ => none
def conv? (k : IntKind) : PV → Option PV
  | .int _ n => some (.int k (k.wrap n))
  | _ => none
def int? : PV → Option Int
  | .int _ n => some n
  | _ => none
def scalar? : PV → Bool
  | .bool _ | .int _ _ | .str _ => true
  | _ => false
def eqCells : List PV → List PV → Option Bool
  | [], [] => some true
  | .int k a :: r, .int k' b :: r' => if k = k' then (eqCells r r').map (decide (a = b) && ·) else none
  | .str a :: r, .str b :: r' => (eqCells r r').map (decide (a = b) && ·)
  | .bool a :: r, .bool b :: r' => (eqCells r r').map (decide (a = b) && ·)
  | _, _ => none
def eqAgg? : PV → PV → Option Bool
  | .agg a, .agg b => eqCells a b
  | _, _ => none
def extract? (i : Nat) : PV → Option PV
  | .tuple vs => vs[i]?
  | _ => none
def field? (off n : Nat) (agg : Bool) : PV → Option PV
  | .agg cs => slice? cs off n agg
  | _ => none
def fieldAddr? (d : Nat) : PV → Option PV
  | .ptr t off => some (.ptr t (off + d))
  | .rptr t g i off => some (.rptr t g i (off + d))
  | .iptr cs off => some (.iptr cs (off + d))
  | _ => none
def indexA? (len sz : Nat) (i : Int) (p : PV) : Option PV :=
  if 0 ≤ i ∧ i < len then fieldAddr? (i.toNat * sz) p else none
def indexS? (look : Nat → Option Tok) (sz : Nat) (i : Int) : PV → Option PV
  | .sl xs _ => if 0 ≤ i then (match xs[i.toNat]? with
      | some cs => if cs.length = sz then some (.iptr cs 0) else none
      | none => none) else none
  | .osl t g off len _ => if 0 ≤ i ∧ i < len then (match look t with
      | some (.row g' sz' _ _) => if g' = g ∧ sz' = sz then some (.rptr t g (off + i.toNat) 0) else none
      | _ => none) else none
  | .vsl t off sz' len => if 0 ≤ i ∧ i < len ∧ sz' = sz then some (.ptr t (off + i.toNat * sz)) else none
  | _ => none
def indexStr? (i : Int) : PV → Option PV
  | .str s => if 0 ≤ i then (s[i.toNat]?).map fun b => .int .u8 b.toNat else none
  | _ => none
/-- A bound: what is given, or what stands in its place; none: no bound that fits. -/
def bound? (o : Option PV) (els lo hi : Nat) : Option Nat :=
  match o with
  | none => some els
  | some (.int _ n) => if (lo : Int) ≤ n ∧ n ≤ hi then some n.toNat else none
  | _ => none
def sliceStr? (lo hi : Option PV) : PV → Option PV
  | .str s => (bound? hi s.length 0 s.length).bind fun h => (bound? lo 0 0 h).map fun l => .str ((s.drop l).take (h - l))
  | _ => none
def sliceSl? (look : Nat → Option Tok) (sz : Nat) (lo hi mx : Option PV) (x : PV) : Option PV :=
  (lenOf x).bind fun n => (bound? mx n 0 n).bind fun m => (bound? hi n 0 m).bind fun h => (bound? lo 0 0 h).bind fun l =>
    match x with
    | .nilSl => some .nilSl
    | .sl xs f => if allOf sz xs then some (.sl ((xs.drop l).take (h - l)) (if mx.isSome then m == h else f && h == n)) else none
    | .osl t g off _ f => if mx.isSome && m != h then none else (match look t with
      | some (.row g' sz' _ _) => if g' = g ∧ sz' = sz then some (.osl t g (off + l) (h - l) (mx.isSome || (f && h == n))) else none
      | _ => none)
    | .vsl t off sz' _ => if sz' = sz then some (.vsl t (off + l * sz) sz (h - l)) else none
    | _ => none
def sliceArr? (len sz : Nat) (lo hi mx : Option PV) : PV → Option PV
  | .ptr t off => (bound? mx len 0 len).bind fun m => (bound? hi len 0 m).bind fun h => (bound? lo 0 0 h).map fun l => .vsl t (off + l * sz) sz (h - l)
  | _ => none
def pick? (c a b : PV) : Option PV :=
  match c with
  | .bool t => some (if t then a else b)
  | _ => none
def isStr : PV → Bool
  | .str _ => true
  | _ => false
def PV.isJunk : PV → Bool
  | .junk => true
  | _ => false
/-- One cell's value. -/
def PV.one : PV → Bool
  | .junk | .agg _ | .tuple _ => false
  | _ => true
def fillParts (zero : List PV) : List (Nat × Nat × PV) → Option (List PV)
  | [] => some zero
  | (off, n, x) :: r => if x.isJunk = false ∧ x.cells.length = n ∧ off + n ≤ zero.length then fillParts (zero.take off ++ x.cells ++ zero.drop (off + n)) r else none
def fillElems (sz : Nat) (zero : List (List PV)) : List (Nat × PV) → Option (List (List PV))
  | [] => some zero
  | (i, x) :: r => if x.isJunk = false ∧ x.cells.length = sz ∧ i < zero.length then fillElems sz (zero.set i x.cells) r else none
def nilCheck? : PV → Option PV
  | .ptr t off => some (.ptr t off)
  | .rptr t g i off => some (.rptr t g i off)
  | .iptr cs off => some (.iptr cs off)
  | _ => none
def cap? : PV → Option Nat
  | .nilSl => some 0
  | .sl xs true => some xs.length
  | .osl _ _ _ len true => some len
  | _ => none
def minmaxI (mx : Bool) (k : IntKind) : Int → List PV → Option PV
  | a, [] => some (.int k a)
  | a, .int _ b :: r => minmaxI mx k (if mx then (if b > a then b else a) else (if b < a then b else a)) r
  | _, _ => none
def minmax? (mx : Bool) : List PV → Option PV
  | .int k a :: r => minmaxI mx k a r
  | _ => none

/-- What an instruction answers that changes nothing of what was there. -/
def quiet (look : Nat → Option Tok) (ev : Opd → PV) : PI → Option PV
  | .move x => some (ev x)
  | .pick c a b => pick? (ev c) (ev a) (ev b)
  | .load n agg a => loadAt look n agg (ev a)
  | .build zero ps => (fillParts zero (ps.map fun p => (p.1, p.2.1, ev p.2.2))).map .agg
  | .buildSl sz zero ps => if allOf sz zero then (fillElems sz zero (ps.map fun p => (p.1, ev p.2))).map fun es => .sl es true else none
  | .fieldAddr x d => fieldAddr? d (ev x)
  | .field x off n agg => field? off n agg (ev x)
  | .indexA x ix len sz => (int? (ev ix)).bind fun i => indexA? len sz i (ev x)
  | .indexS x ix sz => (int? (ev ix)).bind fun i => indexS? look sz i (ev x)
  | .indexStr x ix => (int? (ev ix)).bind fun i => indexStr? i (ev x)
  | .sliceStr x lo hi => sliceStr? (lo.map ev) (hi.map ev) (ev x)
  | .sliceSl x sz lo hi mx => sliceSl? look sz (lo.map ev) (hi.map ev) (mx.map ev) (ev x)
  | .sliceArr x len sz lo hi mx => sliceArr? len sz (lo.map ev) (hi.map ev) (mx.map ev) (ev x)
  | .conv k x => conv? k (ev x)
  | .toBytes x => match ev x with
    | .str s => some (.sl (byteCells s) false)
    | _ => none
  | .textId x => match ev x with
    | .str s => some (.str s)
    | _ => none
  | .toStr x => (elemsOf look (ev x)).bind fun es => (bytesOf? es).map .str
  | .neg x => neg? (ev x)
  | .not x => not? (ev x)
  | .bin op x y => binOp? op (ev x) (ev y)
  | .eqNil neq kind x => (isNil kind (ev x)).map fun b => .bool (if neq then !b else b)
  | .eqBool neq x y => (eqBool? (ev x) (ev y)).map fun b => .bool (if neq then !b else b)
  | .eqAgg neq x y => (eqAgg? (ev x) (ev y)).map fun b => .bool (if neq then !b else b)
  | .extract x i => extract? i (ev x)
  | .mkIface ty x => some (.iface ty (ev x))
  | .mkFunc f caps => some (.func f (caps.map ev))
  | .nilCheck x => nilCheck? (ev x)
  | .len txt x => if isStr (ev x) == txt then (lenOf (ev x)).map fun (n : Nat) => PV.int .i64 (n : Int) else none
  | .cap x => (cap? (ev x)).map fun (n : Nat) => PV.int .i64 (n : Int)
  | .minmax mx xs => minmax? mx (xs.map ev)
  | _ => none

def roomLen : Nat := 140737488355328
def splice (cs : List PV) (off : Nat) (xs : List PV) : List PV := cs.take off ++ xs ++ cs.drop (off + xs.length)

def St.get (st : St) (t : Nat) : Option Tok := getA t st.toks
def St.put (st : St) (t : Nat) (k : Tok) : St := { st with toks := putA t k st.toks }
/-- A new piece of memory. -/
def St.new (st : St) (k : Tok) : St := { base := st.base, next := st.next + 1, toks := putA st.next k st.toks }

def storeAt (st : St) (p x : PV) : Option St :=
  match p with
  | .ptr t off => match st.get t with
    | some (.var cs) => if off + x.cells.length ≤ cs.length then some (st.put t (.var (splice cs off x.cells))) else none
    | _ => none
  | .rptr t g i off => match st.get t with
    | some (.row g' sz es true) => if g' = g then match es[i]? with
        | some cs => if off + x.cells.length ≤ cs.length then some (st.put t (.row g sz (es.set i (splice cs off x.cells)) true)) else none
        | none => none
      else none
    | _ => none
  | _ => none
/-- What is handed to append or copy, behind the dots. -/
def srcOf (st : St) : PV → Option (List (List PV))
  | .str s => some (byteCells s)
  | x => elemsOf st.get x
def appendTo (st : St) (sz bytes : Nat) (s : PV) (src : List (List PV)) : Option (PV × St) :=
  if src = [] then (match s with
    | .nilSl | .sl _ _ | .osl _ _ _ _ _ => some (s, st)
    | _ => none)
  else match s with
  | .nilSl => if src.length * bytes ≤ roomLen then some (.osl st.next 0 0 src.length false, st.new (.row 0 sz src true)) else none
  | .sl xs true => if (xs.length + src.length) * bytes ≤ roomLen ∧ allOf sz xs then some (.osl st.next 0 0 (xs.length + src.length) false, st.new (.row 0 sz (xs ++ src) true)) else none
  | .osl t g off len true => match st.get t with
    | some (.row g' sz' es _) => if g' = g ∧ sz' = sz ∧ off + len ≤ es.length ∧ (len + src.length) * bytes ≤ roomLen then
        some (.osl st.next 0 0 (len + src.length) false, st.new (.row 0 sz ((es.drop off).take len ++ src) true)) else none
    | _ => none
  | .osl t g off len false => match st.get t with
    | some (.row g' sz' es true) => if g' = g ∧ sz' = sz ∧ off + len ≤ es.length ∧ (len + src.length) * bytes ≤ roomLen then
        some (.osl t (g + 1) 0 (len + src.length) false, st.put t (.row (g + 1) sz ((es.drop off).take len ++ src) true)) else none
    | _ => none
  | _ => none
def copyTo (st : St) (sz : Nat) (d : PV) (src : List (List PV)) : Option (PV × St) :=
  match d with
  | .nilSl => some (.int .i64 0, st)
  | .osl t g off len _ => match st.get t with
    | some (.row g' sz' es true) => if g' = g ∧ sz' = sz ∧ off + len ≤ es.length then
        some (.int .i64 (min src.length len : Nat), st.put t (.row g sz (es.take off ++ src.take (min src.length len) ++ es.drop (off + min src.length len)) true)) else none
    | _ => none
  | _ => none

def okEls (sz : Nat) (es : List (List PV)) : Bool := es.all fun cs => cs.length == sz && cs.all PV.one
/-- What an instruction does that makes or changes memory of one's own. -/
def loud (st : St) (ev : Opd → PV) : PI → Option (PV × St)
  | .store n a x => if (ev x).cells.all PV.one = true ∧ (ev x).cells.length = n ∧ 0 < n then (storeAt st (ev a) (ev x)).map fun st => (.tuple [], st) else none
  | .alloc cells => some (.ptr st.next 0, st.new (.var cells))
  | .box x => if (ev x).isJunk = false then some (.ptr st.next 0, st.new (.var (ev x).cells)) else none
  | .buildSl sz zero ps => if allOf sz zero then (fillElems sz zero (ps.map fun p => (p.1, ev p.2))).map fun es => (.osl st.next 0 0 es.length false, st.new (.row 0 sz es true)) else none
  | .makeSl sz zero bytes len cap => match ev len, ev cap with
    | .int _ l, .int _ c => if zero.length = sz ∧ 0 ≤ l ∧ l ≤ c ∧ c * bytes ≤ roomLen then
        some (.osl st.next 0 0 l.toNat false, st.new (.row 0 sz (List.replicate l.toNat zero) true)) else none
    | _, _ => none
  | .append sz bytes _ s x => (srcOf st (ev x)).bind fun src => if okEls sz src = true ∧ 0 < sz ∧ 0 < bytes then appendTo st sz bytes (ev s) src else none
  | .copy sz d x => (srcOf st (ev x)).bind fun src => if okEls sz src = true ∧ 0 < sz then copyTo st sz (ev d) src else none
  | .toBytes x => match ev x with
    | .str s => some (.osl st.next 0 0 s.length false, st.new (.row 0 1 (byteCells s) true))
    | _ => none
  | _ => none

end Go.AM

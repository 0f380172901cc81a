/- The abstract machine: AM1: an abstract machine over plain data: values, code, and what a run of it is. · AM2: what it is for memory to read as the abstract machine's state; that this lasts. · AM3: instructions made out of the machine's operations; operations that change nothing. · AM4: the operations that change nothing. · AM5: more operations that change nothing. · AM6: slices, texts and structs that are read or put together. · AM7: slicing, conversions, lengths, structs put together. -/
import Derived.Deep.Quiet
import Derived.Below
import Derived.Maps.AppendAt
import Derived.KernelRfl
import Derived.WalkKit
import Derived.Laws.StructEq
set_option linter.unusedSectionVars false
set_option linter.unusedVariables false
set_option linter.unusedSimpArgs false
namespace Go.AM
open Go.RowKit
inductive PV where
  | junk
  | bool (b : Bool)
  | int (k : IntKind) (n : Int)
  | str (s : List UInt8)
  | nilPtr
  | ptr (t off : Nat)
  | rptr (t gen i off : Nat)
  | iptr (cells : List PV) (off : Nat)
  | nilSl
  | sl (xs : List (List PV)) (full : Bool)
  | osl (t gen off len : Nat) (full : Bool)
  | vsl (t off sz len : Nat)
  | func (f : Nat) (caps : List PV)
  | nilFunc
  | iface (ty : Nat) (v : PV)
  | nilIface
  | agg (cs : List PV)
  | tuple (vs : List PV)
  | mapv (t : Nat)
  deriving Inhabited
inductive Tok where
  | var (cells : List PV)
  | row (gen sz : Nat) (elems : List (List PV)) (live : Bool)
  | mp (es : List (List UInt8 × PV))
  deriving Inhabited
structure St where
  base : Nat
  next : Nat
  toks : List (Nat × Tok)
  deriving Inhabited
def putA {α : Type} (t : Nat) (x : α) : List (Nat × α) → List (Nat × α)
  | [] => [(t, x)]
  | (k, v) :: r => if k = t then (t, x) :: r else (k, v) :: putA t x r
def getA {α : Type} (t : Nat) : List (Nat × α) → Option α
  | [] => none
  | (k, v) :: r => if k = t then some v else getA t r
def dropA {α : Type} (ts : List Nat) : List (Nat × α) → List (Nat × α)
  | [] => []
  | (k, v) :: r => if ts.contains k then dropA ts r else (k, v) :: dropA ts r
theorem getA_putA {α : Type} (t u : Nat) (x : α) : ∀ l : List (Nat × α), getA u (putA t x l) = if t = u then some x else getA u l
  | [] => by simp [putA, getA]
  | (k, v) :: r => by
    simp only [putA]
    by_cases h : k = t
    · subst h
      rw [if_pos rfl]
      simp only [getA]
      split <;> rfl
    · rw [if_neg h]
      simp only [getA]
      rw [getA_putA t u x r]
      by_cases h1 : k = u
      · subst h1
        rw [if_pos rfl, if_pos rfl, if_neg (fun e => h e.symm)]
      · rw [if_neg h1, if_neg h1]
theorem getA_dropA {α : Type} (ts : List Nat) (u : Nat) : ∀ l : List (Nat × α), getA u (dropA ts l) = if ts.contains u then none else getA u l
  | [] => by simp [dropA, getA]
  | (k, v) :: r => by
    simp only [dropA]
    by_cases h : ts.contains k = true
    · rw [if_pos h, getA_dropA ts u r]
      simp only [getA]
      by_cases h1 : k = u
      · subst h1; rw [if_pos h, if_pos h]
      · rw [if_neg h1]
    · rw [if_neg h]
      simp only [getA]
      by_cases h1 : k = u
      · subst h1; rw [if_pos rfl, if_pos rfl, if_neg h]
      · rw [if_neg h1, if_neg h1, getA_dropA ts u r]
abbrev Env := List (Nat × PV)
def Env.at (ρ : Env) (t : Nat) : PV := (getA t ρ).getD .junk
def Env.put (ρ : Env) (dst : Option Nat) (v : PV) : Env :=
  match dst with
  | some d => putA d v ρ
  | none => ρ
inductive Opd where
  | t (n : Nat)
  | c (p : PV)
  deriving Inhabited
def Opd.ev (ρ : Env) : Opd → PV
  | .t n => ρ.at n
  | .c p => p
inductive PI where
  | move (x : Opd)
  | pick (c a b : Opd)
  | load (n : Nat) (agg : Bool) (a : Opd)
  | store (n : Nat) (a x : Opd)
  | alloc (cells : List PV)
  | box (x : Opd)
  | build (zero : List PV) (parts : List (Nat × Nat × Opd))
  | buildSl (sz : Nat) (zero : List (List PV)) (parts : List (Nat × Opd))
  | fieldAddr (x : Opd) (off : Nat)
  | field (x : Opd) (off n : Nat) (agg : Bool)
  | indexA (x ix : Opd) (len sz : Nat)
  | indexS (x ix : Opd) (sz : Nat)
  | indexStr (x ix : Opd)
  | sliceStr (x : Opd) (lo hi : Option Opd)
  | sliceSl (x : Opd) (sz : Nat) (lo hi mx : Option Opd)
  | sliceArr (x : Opd) (len sz : Nat) (lo hi mx : Option Opd)
  | conv (k : IntKind) (x : Opd)
  | toBytes (x : Opd)
  | toStr (x : Opd)
  | textId (x : Opd)
  | neg (x : Opd)
  | not (x : Opd)
  | bin (op : BinOp) (x y : Opd)
  | eqNil (neq : Bool) (kind : Nat) (x : Opd)
  | eqBool (neq : Bool) (x y : Opd)
  | eqAgg (neq : Bool) (ks : List Nat) (x y : Opd)
  | extract (x : Opd) (i : Nat)
  | mkIface (ty : Nat) (x : Opd)
  | mkFunc (f : Nat) (caps : List Opd)
  | makeSl (sz : Nat) (zero : List PV) (bytes : Nat) (len cap : Opd)
  | nilCheck (x : Opd)
  | len (txt : Bool) (x : Opd)
  | cap (x : Opd)
  | append (sz bytes : Nat) (zero : List PV) (s x : Opd)
  | appendZ (sz bytes : Nat) (zero : List PV) (s x : Opd)
  | copy (sz : Nat) (d s : Opd)
  | minmax (max : Bool) (xs : List Opd)
  | call (f : Opd) (args : List Opd)
  | makeMap
  | mapLook (zero : PV) (ok : Bool) (m k : Opd)
  | mapPut (m k x : Opd)
  deriving Inhabited
structure POp where
  dst : Option Nat
  guard : Option (Nat × Bool)
  op : PI
  deriving Inhabited
inductive PC where
  | skip
  | ops (l : List POp) (kill : List Nat)
  | drawn (l : List POp) (kill : List Nat)
  | seq (a b : PC)
  | cond (c : Opd) (a b : PC)
  | block (id : Nat) (c : PC)
  | loop (c : PC)
  | exit (id : Nat)
  | ret
  deriving Inhabited
inductive PRes where
  | tmp (t : Nat)
  | cell (a n : Nat) (agg : Bool)
  deriving Inhabited
structure PF where
  ntmps : Nat
  results : List PRes
  body : PC
  deriving Inhabited
def PV.cells : PV → List PV
  | .agg cs => cs
  | v => [v]
def allOf (n : Nat) (es : List (List PV)) : Bool := es.all (·.length == n)
def slice? (cs : List PV) (off n : Nat) (agg : Bool) : Option PV :=
  if off + n ≤ cs.length then (if agg then some (.agg ((cs.drop off).take n)) else cs[off]?) else none
def elemsOf (look : Nat → Option Tok) : PV → Option (List (List PV))
  | .nilSl => some []
  | .sl xs _ => some xs
  | .osl t g off len _ => match look t with
    | some (.row g' _ es _) => if g' = g ∧ off + len ≤ es.length then some ((es.drop off).take len) else none
    | _ => none
  | .vsl t off sz len => match look t with
    | some (.var cs) => if off + len * sz ≤ cs.length then some ((List.range len).map fun j => (cs.drop (off + j * sz)).take sz) else none
    | _ => none
  | _ => none
def lenOf : PV → Option Nat
  | .nilSl => some 0
  | .sl xs _ => some xs.length
  | .osl _ _ _ len _ => some len
  | .vsl _ _ _ len => some len
  | .str s => some s.length
  | _ => none
def behind (look : Nat → Option Tok) : PV → Option (List PV × Nat)
  | .ptr t off => match look t with
    | some (.var cs) => some (cs, off)
    | _ => none
  | .rptr t g i off => match look t with
    | some (.row g' _ es _) => if g' = g then (es[i]?).map fun cs => (cs, off) else none
    | _ => none
  | .iptr cs off => some (cs, off)
  | _ => none
def loadAt (look : Nat → Option Tok) (n : Nat) (agg : Bool) (p : PV) : Option PV :=
  (behind look p).bind fun x => slice? x.1 x.2 n agg
def byteCells (s : List UInt8) : List (List PV) := s.map fun b => [.int .u8 b.toNat]
def bytesOf? : List (List PV) → Option (List UInt8)
  | [] => some []
  | [.int .u8 n] :: r => (bytesOf? r).map (UInt8.ofNat n.toNat :: ·)
  | _ :: _ => none
def bytesLess : List UInt8 → List UInt8 → Bool
  | _, [] => false
  | [], _ :: _ => true
  | a :: x, b :: y => a < b || (a == b && bytesLess x y)
def isNil (kind : Nat) : PV → Option Bool
  | .nilSl => if kind = 0 then some true else none
  | .sl _ _ => if kind = 0 then some false else none
  | .osl _ _ _ _ _ => if kind = 0 then some false else none
  | .vsl _ _ _ _ => if kind = 0 then some false else none
  | .nilPtr => if kind = 1 then some true else none
  | .ptr _ _ => if kind = 1 then some false else none
  | .rptr _ _ _ _ => if kind = 1 then some false else none
  | .iptr _ _ => if kind = 1 then some false else none
  | .nilFunc => if kind = 2 then some true else none
  | .func _ _ => if kind = 2 then some false else none
  | .nilIface => if kind = 3 then some true else none
  | .iface _ _ => if kind = 3 then some false else none
  | _ => none
def binInt (op : BinOp) (k : IntKind) (a b : Int) : Option PV :=
  match op with
  | .add => some (.int k (k.wrap (a + b)))
  | .sub => some (.int k (k.wrap (a - b)))
  | .mul => some (.int k (k.wrap (a * b)))
  | .quo => if b = 0 then none else some (.int k (k.wrap (a.tdiv b)))
  | .rem => if b = 0 then none else some (.int k (a.tmod b))
  | .shl => if b < 0 then none else some (.int k (k.wrap (a * 2 ^ (min b.toNat k.bits))))
  | .shr => if b < 0 then none else some (.int k (a.fdiv (2 ^ (min b.toNat k.bits))))
  | .and => some (.int k (k.wrap (BitVec.ofInt k.bits a &&& BitVec.ofInt k.bits b).toNat))
  | .or => some (.int k (k.wrap (BitVec.ofInt k.bits a ||| BitVec.ofInt k.bits b).toNat))
  | .xor => some (.int k (k.wrap (BitVec.ofInt k.bits a ^^^ BitVec.ofInt k.bits b).toNat))
  | .andNot => some (.int k (k.wrap (BitVec.ofInt k.bits a &&& ~~~(BitVec.ofInt k.bits b)).toNat))
  | .eql => some (.bool (decide (a = b)))
  | .neq => some (.bool (!decide (a = b)))
  | .lss => some (.bool (decide (a < b)))
  | .leq => some (.bool (decide (a ≤ b)))
  | .gtr => some (.bool (decide (b < a)))
  | .geq => some (.bool (decide (b ≤ a)))
def binStr (op : BinOp) (a b : List UInt8) : Option PV :=
  match op with
  | .add => if ((a.length + b.length : Nat) : Int) > 9223372036854775807 then none else some (.str (a ++ b))
  | .eql => some (.bool (decide (a = b)))
  | .neq => some (.bool (!decide (a = b)))
  | .lss => some (.bool (bytesLess a b))
  | .leq => some (.bool (bytesLess a b || decide (a = b)))
  | .gtr => some (.bool (!(bytesLess a b || decide (a = b))))
  | .geq => some (.bool (!bytesLess a b))
  | _ => none
def binOp? (op : BinOp) : PV → PV → Option PV
  | .int k a, .int k' b => if op = .shl ∨ op = .shr ∨ k = k' then binInt op k a b else none
  | .str a, .str b => binStr op a b
  | _, _ => none
def eqBool? : PV → PV → Option Bool
  | .bool a, .bool b => some (a == b)
  | _, _ => none
def neg? : PV → Option PV
  | .int k n => some (.int k (k.wrap (0 - n)))
  | _ => none
def not? : PV → Option PV
  | .bool b => some (.bool (!b))
  | _ => none
def conv? (k : IntKind) : PV → Option PV
  | .int _ n => some (.int k (k.wrap n))
  | _ => none
def int? : PV → Option Int
  | .int _ n => some n
  | _ => none
def scalar? : PV → Bool
  | .bool _ | .int _ _ | .str _ => true
  | _ => false
def eqCells : List PV → List PV → Option Bool
  | [], [] => some true
  | .int k a :: r, .int k' b :: r' => if k = k' then (eqCells r r').map (decide (a = b) && ·) else none
  | .str a :: r, .str b :: r' => (eqCells r r').map (decide (a = b) && ·)
  | .bool a :: r, .bool b :: r' => (eqCells r r').map (decide (a = b) && ·)
  | _, _ => none
def kindsOk : List Nat → List PV → Bool
  | [], [] => true
  | 0 :: ks, .int _ _ :: r => kindsOk ks r
  | 1 :: ks, .str _ :: r => kindsOk ks r
  | 2 :: ks, .bool _ :: r => kindsOk ks r
  | _, _ => false
def eqAgg? (ks : List Nat) : PV → PV → Option Bool
  | .agg a, .agg b => if kindsOk ks a && kindsOk ks b then eqCells a b else none
  | _, _ => none
def extract? (i : Nat) : PV → Option PV
  | .tuple vs => vs[i]?
  | _ => none
def field? (off n : Nat) (agg : Bool) : PV → Option PV
  | .agg cs => slice? cs off n agg
  | _ => none
def fieldAddr? (d : Nat) : PV → Option PV
  | .ptr t off => some (.ptr t (off + d))
  | .rptr t g i off => some (.rptr t g i (off + d))
  | .iptr cs off => some (.iptr cs (off + d))
  | _ => none
def indexA? (len sz : Nat) (i : Int) (p : PV) : Option PV :=
  if 0 ≤ i ∧ i < len then fieldAddr? (i.toNat * sz) p else none
def indexS? (look : Nat → Option Tok) (sz : Nat) (i : Int) : PV → Option PV
  | .sl xs _ => if 0 ≤ i then (match xs[i.toNat]? with
      | some cs => if cs.length = sz then some (.iptr cs 0) else none
      | none => none) else none
  | .osl t g off len _ => if 0 ≤ i ∧ i < len then (match look t with
      | some (.row g' sz' _ _) => if g' = g ∧ sz' = sz then some (.rptr t g (off + i.toNat) 0) else none
      | _ => none) else none
  | .vsl t off sz' len => if 0 ≤ i ∧ i < len ∧ sz' = sz then some (.ptr t (off + i.toNat * sz)) else none
  | _ => none
def indexStr? (i : Int) : PV → Option PV
  | .str s => if 0 ≤ i then (s[i.toNat]?).map fun b => .int .u8 b.toNat else none
  | _ => none
def bound? (o : Option PV) (els lo hi : Nat) : Option Nat :=
  match o with
  | none => some els
  | some (.int _ n) => if (lo : Int) ≤ n ∧ n ≤ hi then some n.toNat else none
  | _ => none
def sliceStr? (lo hi : Option PV) : PV → Option PV
  | .str s => (bound? hi s.length 0 s.length).bind fun h => (bound? lo 0 0 h).map fun l => .str ((s.drop l).take (h - l))
  | _ => none
def sliceSl? (look : Nat → Option Tok) (sz : Nat) (lo hi mx : Option PV) (x : PV) : Option PV :=
  (lenOf x).bind fun n => (bound? mx n 0 n).bind fun m => (bound? hi n 0 m).bind fun h => (bound? lo 0 0 h).bind fun l =>
    match x with
    | .nilSl => some .nilSl
    | .sl xs f => if allOf sz xs then some (.sl ((xs.drop l).take (h - l)) (if mx.isSome then m == h else f && h == n)) else none
    | .osl t g off _ f => if mx.isSome && m != h then none else (match look t with
      | some (.row g' sz' _ _) => if g' = g ∧ sz' = sz then some (.osl t g (off + l) (h - l) (mx.isSome || (f && h == n))) else none
      | _ => none)
    | .vsl t off sz' _ => if sz' = sz then some (.vsl t (off + l * sz) sz (h - l)) else none
    | _ => none
def sliceArr? (len sz : Nat) (lo hi mx : Option PV) : PV → Option PV
  | .ptr t off => (bound? mx len 0 len).bind fun m => (bound? hi len 0 m).bind fun h => (bound? lo 0 0 h).map fun l => .vsl t (off + l * sz) sz (h - l)
  | _ => none
def pick? (c a b : PV) : Option PV :=
  match c with
  | .bool t => some (if t then a else b)
  | _ => none
def isStr : PV → Bool
  | .str _ => true
  | _ => false
def PV.isJunk : PV → Bool
  | .junk => true
  | _ => false
def PV.one : PV → Bool
  | .junk | .agg _ | .tuple _ => false
  | _ => true
def fillParts (zero : List PV) : List (Nat × Nat × PV) → Option (List PV)
  | [] => some zero
  | (off, n, x) :: r => if x.isJunk = false ∧ x.cells.length = n ∧ off + n ≤ zero.length then fillParts (zero.take off ++ x.cells ++ zero.drop (off + n)) r else none
def fillElems (sz : Nat) (zero : List (List PV)) : List (Nat × PV) → Option (List (List PV))
  | [] => some zero
  | (i, x) :: r => if x.isJunk = false ∧ x.cells.length = sz ∧ i < zero.length then fillElems sz (zero.set i x.cells) r else none
def nilCheck? : PV → Option PV
  | .ptr t off => some (.ptr t off)
  | .rptr t g i off => some (.rptr t g i off)
  | .iptr cs off => some (.iptr cs off)
  | _ => none
def cap? : PV → Option Nat
  | .nilSl => some 0
  | .sl xs true => some xs.length
  | .osl _ _ _ len true => some len
  | _ => none
def minmaxI (mx : Bool) (k : IntKind) : Int → List PV → Option PV
  | a, [] => some (.int k a)
  | a, .int _ b :: r => minmaxI mx k (if mx then (if b > a then b else a) else (if b < a then b else a)) r
  | _, _ => none
def minmax? (mx : Bool) : List PV → Option PV
  | .int k a :: r => minmaxI mx k a r
  | _ => none
def getMp (s : List UInt8) : List (List UInt8 × PV) → Option PV
  | [] => none
  | (u, p) :: r => if s = u then some p else getMp s r
def setMp (s : List UInt8) (x : PV) : List (List UInt8 × PV) → List (List UInt8 × PV)
  | [] => [(s, x)]
  | (u, p) :: r => if s = u then (u, x) :: r else (u, p) :: setMp s x r
def mapLook? (look : Nat → Option Tok) (zero : PV) (ok : Bool) (m k : PV) : Option PV :=
  match m, k with
  | .mapv t, .str s => match look t with
    | some (.mp es) => some (match getMp s es with
      | some p => if ok = true then .tuple [p, .bool true] else p
      | none => if ok = true then .tuple [zero, .bool false] else zero)
    | _ => none
  | _, _ => none
def roomLen : Nat := 140737488355328
def okEls (sz : Nat) (es : List (List PV)) : Bool := es.all fun cs => cs.length == sz && cs.all PV.one
def appQ (sz bytes : Nat) : PV → PV → Option PV
  | .nilSl, .nilSl => some .nilSl
  | .nilSl, .sl [] _ => some .nilSl
  | .nilSl, .sl (c :: r) _ => if okEls sz (c :: r) = true ∧ 0 < sz ∧ 0 < bytes ∧ (c :: r).length * bytes ≤ roomLen then some (.sl (c :: r) false) else none
  | _, _ => none
def quiet (look : Nat → Option Tok) (ev : Opd → PV) : PI → Option PV
  | .move x => some (ev x)
  | .pick c a b => pick? (ev c) (ev a) (ev b)
  | .load n agg a => loadAt look n agg (ev a)
  | .build zero ps => (fillParts zero (ps.map fun p => (p.1, p.2.1, ev p.2.2))).map .agg
  | .buildSl sz zero ps => if allOf sz zero then (fillElems sz zero (ps.map fun p => (p.1, ev p.2))).map fun es => .sl es true else none
  | .fieldAddr x d => fieldAddr? d (ev x)
  | .field x off n agg => field? off n agg (ev x)
  | .indexA x ix len sz => (int? (ev ix)).bind fun i => indexA? len sz i (ev x)
  | .indexS x ix sz => (int? (ev ix)).bind fun i => indexS? look sz i (ev x)
  | .indexStr x ix => (int? (ev ix)).bind fun i => indexStr? i (ev x)
  | .sliceStr x lo hi => sliceStr? (lo.map ev) (hi.map ev) (ev x)
  | .sliceSl x sz lo hi mx => sliceSl? look sz (lo.map ev) (hi.map ev) (mx.map ev) (ev x)
  | .sliceArr x len sz lo hi mx => sliceArr? len sz (lo.map ev) (hi.map ev) (mx.map ev) (ev x)
  | .conv k x => conv? k (ev x)
  | .toBytes x => match ev x with
    | .str s => some (.sl (byteCells s) false)
    | _ => none
  | .textId x => match ev x with
    | .str s => some (.str s)
    | _ => none
  | .toStr x => (elemsOf look (ev x)).bind fun es => (bytesOf? es).map .str
  | .neg x => neg? (ev x)
  | .not x => not? (ev x)
  | .bin op x y => binOp? op (ev x) (ev y)
  | .eqNil neq kind x => (isNil kind (ev x)).map fun b => .bool (if neq then !b else b)
  | .eqBool neq x y => (eqBool? (ev x) (ev y)).map fun b => .bool (if neq then !b else b)
  | .eqAgg neq ks x y => (eqAgg? ks (ev x) (ev y)).map fun b => .bool (if neq then !b else b)
  | .extract x i => extract? i (ev x)
  | .mkIface ty x => some (.iface ty (ev x))
  | .mkFunc f caps => some (.func f (caps.map ev))
  | .nilCheck x => nilCheck? (ev x)
  | .len txt x => if isStr (ev x) == txt then (lenOf (ev x)).map fun (n : Nat) => PV.int .i64 (n : Int) else none
  | .cap x => (cap? (ev x)).map fun (n : Nat) => PV.int .i64 (n : Int)
  | .minmax mx xs => minmax? mx (xs.map ev)
  | .mapLook z ok m k => mapLook? look z ok (ev m) (ev k)
  | .append sz bytes _ s x => appQ sz bytes (ev s) (ev x)
  | _ => none
def splice (cs : List PV) (off : Nat) (xs : List PV) : List PV := cs.take off ++ xs ++ cs.drop (off + xs.length)
def St.get (st : St) (t : Nat) : Option Tok := getA t st.toks
def St.put (st : St) (t : Nat) (k : Tok) : St := { st with toks := putA t k st.toks }
def St.new (st : St) (k : Tok) : St := { base := st.base, next := st.next + 1, toks := putA st.next k st.toks }
def storeAt (st : St) (p x : PV) : Option St :=
  match p with
  | .ptr t off => match st.get t with
    | some (.var cs) => if off + x.cells.length ≤ cs.length then some (st.put t (.var (splice cs off x.cells))) else none
    | _ => none
  | .rptr t g i off => match st.get t with
    | some (.row g' sz es true) => if g' = g then match es[i]? with
        | some cs => if off + x.cells.length ≤ cs.length then some (st.put t (.row g sz (es.set i (splice cs off x.cells)) true)) else none
        | none => none
      else none
    | _ => none
  | _ => none
def srcOf (st : St) : PV → Option (List (List PV))
  | .str s => some (byteCells s)
  | x => elemsOf st.get x
def appendTo (st : St) (sz bytes : Nat) (s : PV) (src : List (List PV)) : Option (PV × St) :=
  if src = [] then (match s with
    | .nilSl | .sl _ _ | .osl _ _ _ _ _ => some (s, st)
    | _ => none)
  else match s with
  | .nilSl => if src.length * bytes ≤ roomLen then some (.osl st.next 0 0 src.length false, st.new (.row 0 sz src true)) else none
  | .sl xs true => if (xs.length + src.length) * bytes ≤ roomLen ∧ allOf sz xs then some (.osl st.next 0 0 (xs.length + src.length) false, st.new (.row 0 sz (xs ++ src) true)) else none
  | .osl t g off len true => match st.get t with
    | some (.row g' sz' es _) => if g' = g ∧ sz' = sz ∧ off + len ≤ es.length ∧ (len + src.length) * bytes ≤ roomLen then
        some (.osl st.next 0 0 (len + src.length) false, st.new (.row 0 sz ((es.drop off).take len ++ src) true)) else none
    | _ => none
  | .osl t g off len false => match st.get t with
    | some (.row g' sz' es true) => if g' = g ∧ sz' = sz ∧ off + len ≤ es.length ∧ (len + src.length) * bytes ≤ roomLen then
        some (.osl t (g + 1) 0 (len + src.length) false, st.put t (.row (g + 1) sz ((es.drop off).take len ++ src) true)) else none
    | _ => none
  | _ => none
def copyTo (st : St) (sz : Nat) (d : PV) (src : List (List PV)) : Option (PV × St) :=
  match d with
  | .nilSl => some (.int .i64 0, st)
  | .osl t g off len _ => match st.get t with
    | some (.row g' sz' es true) => if g' = g ∧ sz' = sz ∧ off + len ≤ es.length then
        some (.int .i64 (min src.length len : Nat), st.put t (.row g sz (es.take off ++ src.take (min src.length len) ++ es.drop (off + min src.length len)) true)) else none
    | _ => none
  | _ => none
def loud (st : St) (ev : Opd → PV) : PI → Option (PV × St)
  | .store n a x => if (ev x).cells.all PV.one = true ∧ (ev x).cells.length = n ∧ 0 < n then (storeAt st (ev a) (ev x)).map fun st => (.tuple [], st) else none
  | .alloc cells => some (.ptr st.next 0, st.new (.var cells))
  | .box x => if (ev x).isJunk = false then some (.ptr st.next 0, st.new (.var (ev x).cells)) else none
  | .buildSl sz zero ps => if allOf sz zero then (fillElems sz zero (ps.map fun p => (p.1, ev p.2))).map fun es => (.osl st.next 0 0 es.length false, st.new (.row 0 sz es true)) else none
  | .makeSl sz zero bytes len cap => match ev len, ev cap with
    | .int _ l, .int _ c => if zero.length = sz ∧ 0 ≤ l ∧ l ≤ c ∧ c * bytes ≤ roomLen then
        some (.osl st.next 0 0 l.toNat false, st.new (.row 0 sz (List.replicate l.toNat zero) true)) else none
    | _, _ => none
  | .append sz bytes _ s x => (srcOf st (ev x)).bind fun src => if okEls sz src = true ∧ 0 < sz ∧ 0 < bytes then appendTo st sz bytes (ev s) src else none
  | .appendZ sz bytes zero s x => match ev s, ev x with
    | .nilSl, .int _ k => if zero.length = sz ∧ 0 < k ∧ k * bytes ≤ roomLen then
        some (.osl st.next 0 0 k.toNat false, st.new (.row 0 sz (List.replicate k.toNat zero) true)) else none
    | _, _ => none
  | .copy sz d x => (srcOf st (ev x)).bind fun src => if okEls sz src = true ∧ 0 < sz then copyTo st sz (ev d) src else none
  | .toBytes x => match ev x with
    | .str s => some (.osl st.next 0 0 s.length false, st.new (.row 0 1 (byteCells s) true))
    | _ => none
  | .makeMap => some (.mapv st.next, st.new (.mp []))
  | .mapPut m k x => match ev m, ev k with
    | .mapv t, .str s => if (ev x).one = true then match st.get t with
        | some (.mp es) => some (.tuple [], st.put t (.mp (setMp s (ev x) es)))
        | _ => none
      else none
    | _, _ => none
  | _ => none
end Go.AM
set_option linter.unusedVariables false
set_option linter.unusedSimpArgs false
namespace Go.AM
open Go.RowKit
structure Loc where
  blk : Nat
  off : Nat
  cap : Nat
  sz : Nat
abbrev Gh := Nat → Nat → Option Loc
def cellAt (w : World) (b o : Nat) : Option Value := w.cell? ⟨b, o, none⟩
inductive Rep (G : Gh) (own : Nat → Prop) (w : World) : Value → PV → Prop
  | junk (v) : Rep G own w v .junk
  | bool (b) : Rep G own w (.bool b) (.bool b)
  | int (k n) : Rep G own w (.int k n) (.int k n)
  | str (s) : Rep G own w (.string ⟨s.toArray⟩) (.str s)
  | nilPtr : Rep G own w (.pointer none) .nilPtr
  | ptr (t off L) (h : G t 0 = some L) : Rep G own w (.pointer (some ⟨L.blk, L.off + off, none⟩)) (.ptr t off)
  | rptr (t g i off L) (h : G t g = some L) : Rep G own w (.pointer (some ⟨L.blk, L.off + i * L.sz + off, none⟩)) (.rptr t g i off)
  | iptr (cells off b o) (u : Nat → Value) (hc : ∀ (i : Nat) (c : PV), cells[i]? = some c → cellAt w b (o + i) = some (u i) ∧ ¬ own b) (hr : ∀ (i : Nat) (c : PV), cells[i]? = some c → Rep G own w (u i) c) :
      Rep G own w (.pointer (some ⟨b, o + off, none⟩)) (.iptr cells off)
  | nilSl : Rep G own w (.slice none 0 0) .nilSl
  | sl (xs full b o cap sz) (adr : Addr) (u : Nat → Nat → Value) (hcap : xs.length ≤ cap) (hfull : full = true → cap = xs.length) (hadr : 0 < cap → adr = ⟨b, o, none⟩)
      (hsz : ∀ (j : Nat) (cs : List PV), xs[j]? = some cs → cs.length = sz)
      (hc : ∀ (j : Nat) (cs : List PV) (i : Nat) (c : PV), xs[j]? = some cs → cs[i]? = some c → cellAt w b (o + j * sz + i) = some (u j i) ∧ ¬ own b)
      (hr : ∀ (j : Nat) (cs : List PV) (i : Nat) (c : PV), xs[j]? = some cs → cs[i]? = some c → Rep G own w (u j i) c) :
      Rep G own w (.slice (some adr) xs.length cap) (.sl xs full)
  | osl (t g off len full L cap a) (h : G t g = some L) (hcap : len ≤ cap) (hL : off + cap ≤ L.cap) (hfull : full = true → cap = len) (ha : 0 < cap → a = ⟨L.blk, L.off + off * L.sz, none⟩) (hs : a.spot = none) :
      Rep G own w (.slice (some a) len cap) (.osl t g off len full)
  | vsl (t off sz len L cap a) (h : G t 0 = some L) (hcap : len ≤ cap) (ha : 0 < len → a = ⟨L.blk, L.off + off, none⟩) (hs : a.spot = none) :
      Rep G own w (.slice (some a) len cap) (.vsl t off sz len)
  | func (f) (caps : List PV) (vs : Array Value) (hs : vs.size = caps.length) (h : ∀ (i : Nat) (c : PV), caps[i]? = some c → Rep G own w (vs.getD i undef) c) :
      Rep G own w (.func (.func f) #[] vs) (.func f caps)
  | nilFunc : Rep G own w .nilFunc .nilFunc
  | iface (ty v p) (h : Rep G own w v p) : Rep G own w (.iface ty v) (.iface ty p)
  | nilIface : Rep G own w .nilIface .nilIface
  | agg (cs : List PV) (vs : Array Value) (hs : vs.size = cs.length) (h : ∀ (i : Nat) (c : PV), cs[i]? = some c → Rep G own w (vs.getD i undef) c) :
      Rep G own w (.agg vs) (.agg cs)
  | tuple (cs : List PV) (vs : Array Value) (hs : vs.size = cs.length) (h : ∀ (i : Nat) (c : PV), cs[i]? = some c → Rep G own w (vs.getD i undef) c) :
      Rep G own w (.tuple vs) (.tuple cs)
  | mapv (t L) (h : G t 0 = some L) : Rep G own w (.map (some L.blk)) (.mapv t)
structure Chg (S : Nat → Prop) (w w' : World) : Prop where
  os : w'.os = w.os
  tape : w'.tape = w.tape
  output : w'.output = w.output
  size : w.heap.size ≤ w'.heap.size
  block : ∀ b, b < w.heap.size → ¬ S b → w'.heap[b]? = w.heap[b]?
theorem Chg.refl (S : Nat → Prop) (w : World) : Chg S w w := ⟨rfl, rfl, rfl, Nat.le_refl _, fun _ _ _ => rfl⟩
theorem Chg.trans {S S' : Nat → Prop} {a b c : World} (h : Chg S a b) (k : Chg S' b c) (hs : ∀ i, i < a.heap.size → S' i → S i) : Chg S a c :=
  ⟨k.os.trans h.os, k.tape.trans h.tape, k.output.trans h.output, Nat.le_trans h.size k.size,
    fun i hi hn => (k.block i (Nat.lt_of_lt_of_le hi h.size) (fun hc => hn (hs i hi hc))).trans (h.block i hi hn)⟩
theorem Chg.mono {S S' : Nat → Prop} {a b : World} (h : Chg S a b) (hs : ∀ i, i < a.heap.size → S i → S' i) : Chg S' a b :=
  ⟨h.os, h.tape, h.output, h.size, fun i hi hn => h.block i hi (fun hc => hn (hs i hi hc))⟩
theorem Chg.below {w w' : World} (h : Chg (fun _ => False) w w') : Below w.heap.size w w' := ⟨h.os, h.tape, h.output, h.size, fun k hk => h.block k hk (fun h => h)⟩
theorem chg_of_below {S : Nat → Prop} {w w' : World} (h : Below w.heap.size w w') : Chg S w w' := ⟨h.os, h.tape, h.output, h.size, fun k hk _ => h.block k hk⟩
theorem cellAt_lt {w : World} {b o : Nat} {v : Value} (h : cellAt w b o = some v) : b < w.heap.size := World.block_lt_of_cell? w ⟨b, o, none⟩ h
theorem cellAt_congr {w w' : World} {b : Nat} (h : w'.heap[b]? = w.heap[b]?) (o : Nat) : cellAt w' b o = cellAt w b o := by
  unfold cellAt World.cell?
  simp only [h]
theorem frozen_congr {w w' : World} {b : Nat} (h : w'.heap[b]? = w.heap[b]?) (o : Nat) : w'.frozen? ⟨b, o, none⟩ = w.frozen? ⟨b, o, none⟩ := by
  unfold World.frozen?
  simp only [h]
theorem Chg.cell {S : Nat → Prop} {w w' : World} (h : Chg S w w') {b o : Nat} {v : Value} (hc : cellAt w b o = some v) (hn : ¬ S b) : cellAt w' b o = some v := by
  rw [cellAt_congr (h.block b (cellAt_lt hc) hn)]; exact hc
theorem Rep.mono {G G' : Gh} {own own' S : Nat → Prop} {w w' : World} (hG : ∀ t g L, G t g = some L → G' t g = some L) (hS : Chg S w w') (hSo : ∀ b, S b → own b)
    (ho : ∀ b, own' b → own b ∨ w.heap.size ≤ b) {v : Value} {p : PV} (h : Rep G own w v p) : Rep G' own' w' v p := by
  have key : ∀ {b o : Nat} {u : Value}, cellAt w b o = some u ∧ ¬ own b → cellAt w' b o = some u ∧ ¬ own' b := by
    intro b o u ⟨h1, h2⟩
    refine ⟨hS.cell h1 (fun hs => h2 (hSo b hs)), fun h3 => ?_⟩
    rcases ho b h3 with h4 | h4
    · exact h2 h4
    · have := cellAt_lt h1; omega
  induction h with
  | junk v => exact .junk v
  | bool b => exact .bool b
  | int k n => exact .int k n
  | str s => exact .str s
  | nilPtr => exact .nilPtr
  | ptr t off L h => exact .ptr t off L (hG _ _ _ h)
  | rptr t g i off L h => exact .rptr t g i off L (hG _ _ _ h)
  | iptr cells off b o u hc hr ih => exact .iptr cells off b o u (fun i c hi => key (hc i c hi)) ih
  | nilSl => exact .nilSl
  | sl xs full b o cap sz adr u hcap hfull hadr hsz hc hr ih => exact .sl xs full b o cap sz adr u hcap hfull hadr hsz (fun j cs i c hj hi => key (hc j cs i c hj hi)) ih
  | osl t g off len full L cap a h hcap hL hfull ha hs => exact .osl t g off len full L cap a (hG _ _ _ h) hcap hL hfull ha hs
  | vsl t off sz len L cap a h hcap ha hs => exact .vsl t off sz len L cap a (hG _ _ _ h) hcap ha hs
  | func f caps vs hs h ih => exact .func f caps vs hs ih
  | nilFunc => exact .nilFunc
  | iface ty v p h ih => exact .iface ty v p ih
  | nilIface => exact .nilIface
  | agg cs vs hs h ih => exact .agg cs vs hs ih
  | tuple cs vs hs h ih => exact .tuple cs vs hs ih
  | mapv t L h => exact .mapv t L (hG _ _ _ h)
def CellsAt (G : Gh) (own : Nat → Prop) (w : World) (b o : Nat) (cells : List PV) : Prop :=
  ∀ (i : Nat) (p : PV), cells[i]? = some p → ∃ v, cellAt w b (o + i) = some v ∧ Rep G own w v p
def Room (w : World) (b lo hi : Nat) : Prop := ∀ o, lo ≤ o → o < hi → (∃ v, cellAt w b o = some v) ∧ w.frozen? ⟨b, o, none⟩ = false
def Tok.gen : Tok → Nat
  | .var _ => 0
  | .row g _ _ _ => g
  | .mp _ => 0
def Tok.live : Tok → Bool
  | .var _ => true
  | .row _ _ _ l => l
  | .mp _ => true
def TokRep (G : Gh) (own : Nat → Prop) (w : World) (t : Nat) : Tok → Prop
  | .var cells => ∃ L, G t 0 = some L ∧ Room w L.blk L.off (L.off + cells.length) ∧ CellsAt G own w L.blk L.off cells
  | .row g sz es live => ∃ L, G t g = some L ∧ L.sz = sz ∧ es.length ≤ L.cap ∧ Room w L.blk L.off (L.off + L.cap * sz) ∧
      (∀ (j : Nat) (cs : List PV), es[j]? = some cs → cs.length = sz ∧ CellsAt G own w L.blk (L.off + j * sz) cs) ∧ (live = false → ¬ own L.blk)
  | .mp es => ∃ L ms clock, G t 0 = some L ∧ w.heap[L.blk]? = some (.map ms clock) ∧ ms.size = es.length ∧
      ∀ (i : Nat) (s : List UInt8) (p : PV), es[i]? = some (s, p) → ∃ e, ms[i]? = some e ∧ e.key = .string ⟨s.toArray⟩ ∧ Rep G own w e.val p
def Own (st : St) (G : Gh) (b : Nat) : Prop := ∃ t k L, st.get t = some k ∧ k.live = true ∧ G t k.gen = some L ∧ L.blk = b
class Gl where
  ok : World → Prop
  stab : ∀ {w w' : World}, Below w.heap.size w w' → ok w → ok w'
variable [Gl]
structure Cx where
  w0 : World
  G0 : Gh
  own0 : Nat → Prop
  F : Nat → Prop
  T0 : Nat → Prop
def OwnF (X : Cx) (st : St) (G : Gh) (b : Nat) : Prop := X.F b ∨ Own st G b
structure Inv (X : Cx) (st : St) (G : Gh) (w : World) : Prop where
  low : ∀ t g L, G t g = some L → t < st.next ∧ L.blk < w.heap.size
  base : st.base ≤ st.next
  old : ∀ t g L, X.G0 t g = some L → t < st.base ∧ G t g = some L
  toks : ∀ t k, st.get t = some k → TokRep G (OwnF X st G) w t k
  gens : ∀ t k g L, st.get t = some k → G t g = some L → g ≤ k.gen
  inj : ∀ t t' k k' L L', st.get t = some k → st.get t' = some k' → k.live = true → k'.live = true → G t k.gen = some L → G t' k'.gen = some L' → L.blk = L'.blk → t = t'
  newg : ∀ t g L, G t g = some L → X.G0 t g = some L ∨ X.T0 t ∨ st.base ≤ t
  dom : ∀ t k, st.get t = some k → X.T0 t ∨ st.base ≤ t
  frame : Chg X.own0 X.w0 w
  ownb : ∀ b, Own st G b → X.own0 b ∨ X.w0.heap.size ≤ b
  foreign : ∀ b, X.F b → b < X.w0.heap.size ∧ ¬ X.own0 b
  glob : ∀ w', Chg X.own0 X.w0 w' → Gl.ok w'
theorem Inv.gl {X : Cx} {st : St} {G : Gh} {w : World} (h : Inv X st G w) : Gl.ok w := h.glob w h.frame
theorem Inv.f_own {X : Cx} {st : St} {G : Gh} {w : World} (h : Inv X st G w) {b : Nat} (hf : X.F b) : ¬ Own st G b := by
  intro ho
  have h1 := h.foreign b hf
  rcases h.ownb b ho with h2 | h2
  · exact h1.2 h2
  · omega
structure EnvRep (G : Gh) (own : Nat → Prop) (w : World) (n : Nat) (ρ : Env) (a : Act) : Prop where
  defers : a.defers = []
  size : a.tmps.size = n
  reps : ∀ t p, getA t ρ = some p → Rep G own w (a.tmps.getD t undef) p
structure Later (X : Cx) (st : St) (G : Gh) (w : World) (st' : St) (G' : Gh) (w' : World) : Prop where
  gh : ∀ t g L, G t g = some L → G' t g = some L
  chg : Chg (Own st G) w w'
  own : ∀ b, OwnF X st' G' b → OwnF X st G b ∨ w.heap.size ≤ b
theorem Later.refl (X : Cx) (st : St) (G : Gh) (w : World) : Later X st G w st G w := ⟨fun _ _ _ h => h, Chg.refl _ _, fun _ h => .inl h⟩
theorem Later.rep {X : Cx} {st st' : St} {G G' : Gh} {w w' : World} (h : Later X st G w st' G' w') {v : Value} {p : PV} (hr : Rep G (OwnF X st G) w v p) : Rep G' (OwnF X st' G') w' v p :=
  hr.mono h.gh h.chg (fun b hb => .inr hb) h.own
theorem Later.trans {X : Cx} {st st1 st2 : St} {G G1 G2 : Gh} {w w1 w2 : World} (hi : Inv X st G w) (h : Later X st G w st1 G1 w1) (hi1 : Inv X st1 G1 w1) (k : Later X st1 G1 w1 st2 G2 w2) : Later X st G w st2 G2 w2 := by
  refine ⟨fun t g L hh => k.gh _ _ _ (h.gh _ _ _ hh), h.chg.trans k.chg ?_, ?_⟩
  · intro b hb ho
    rcases h.own b (.inr ho) with h1 | h1
    · rcases h1 with h1 | h1
      · exact absurd ho (hi1.f_own h1)
      · exact h1
    · omega
  · intro b hb
    rcases k.own b hb with h1 | h1
    · exact h.own b h1
    · exact .inr (Nat.le_trans h.chg.size h1)
theorem Later.env {X : Cx} {st st' : St} {G G' : Gh} {w w' : World} (h : Later X st G w st' G' w') {n : Nat} {ρ : Env} {a : Act} (he : EnvRep G (OwnF X st G) w n ρ a) : EnvRep G' (OwnF X st' G') w' n ρ a :=
  ⟨he.defers, he.size, fun t p hp => h.rep (he.reps t p hp)⟩
theorem EnvRep.put {G : Gh} {own : Nat → Prop} {w : World} {n : Nat} {ρ : Env} {a : Act} (h : EnvRep G own w n ρ a) {d : Option Nat} (hd : ∀ t, d = some t → t < n) {v : Value} {p : PV} (hr : Rep G own w v p) :
    EnvRep G own w n (ρ.put d p) (a.put d v) := by
  cases d with
  | none => exact h
  | some t =>
    have ht := hd t rfl
    refine ⟨h.defers, by simp [Act.put, h.size], fun u q hq => ?_⟩
    simp only [Env.put, getA_putA] at hq
    simp only [Act.put, Array.getD_eq_getD_getElem?, Array.getElem?_setIfInBounds]
    split at hq
    · rename_i e
      subst e
      injection hq with hq
      subst hq
      simp [h.size, ht]
      exact hr
    · rename_i e
      rw [if_neg e]
      have := h.reps u q hq
      rwa [Array.getD_eq_getD_getElem?] at this
theorem EnvRep.at {G : Gh} {own : Nat → Prop} {w : World} {n : Nat} {ρ : Env} {a : Act} (h : EnvRep G own w n ρ a) (t : Nat) : Rep G own w (a.tmps.getD t undef) (ρ.at t) := by
  unfold Env.at
  cases hg : getA t ρ with
  | none => exact .junk _
  | some p => exact h.reps t p hg
end Go.AM
set_option linter.unusedVariables false
set_option linter.unusedSimpArgs false
namespace Go.AM
open Go.RowKit
variable [Gl]
def cVal1 : Value → Option PV
  | .bool b => some (.bool b)
  | .int k n => some (.int k n)
  | .string s => some (.str s.data.toList)
  | .pointer none => some .nilPtr
  | .slice none 0 0 => some .nilSl
  | .nilFunc => some .nilFunc
  | .nilIface => some .nilIface
  | _ => none
def cVals : List Value → Option (List PV)
  | [] => some []
  | v :: r => match cVal1 v, cVals r with
    | some p, some ps => some (p :: ps)
    | _, _ => none
def cVal : Value → Option PV
  | .agg cs => (cVals cs.toList).map .agg
  | .tuple cs => (cVals cs.toList).map .tuple
  | v => cVal1 v
def cOpd : Operand → Option Opd
  | .tmp t => some (.t t)
  | .const v => (cVal v).map .c
  | .func f => some (.c (.func f []))
  | .global _ => none
def cOpds : List Operand → Option (List Opd)
  | [] => some []
  | v :: r => match cOpd v, cOpds r with
    | some p, some ps => some (p :: ps)
    | _, _ => none
theorem cVal1_rep {G : Gh} {own : Nat → Prop} {w : World} {v : Value} {p : PV} (h : cVal1 v = some p) : Rep G own w v p := by
  unfold cVal1 at h
  split at h <;> first
    | (injection h with h; subst h; first | exact .bool _ | exact .int _ _ | exact .nilPtr | exact .nilSl | exact .nilFunc | exact .nilIface)
    | (injection h with h; subst h; rename_i s; have := Rep.str (G := G) (own := own) (w := w) s.data.toList; simpa using this)
    | cases h
theorem cVals_rep {G : Gh} {own : Nat → Prop} {w : World} : ∀ {vs : List Value} {ps : List PV}, cVals vs = some ps → vs.length = ps.length ∧ ∀ (i : Nat) (c : PV), ps[i]? = some c → Rep G own w (vs.getD i undef) c
  | [], ps, h => by
    injection h with h
    subst h
    exact ⟨rfl, fun i c hc => by simp at hc⟩
  | v :: r, ps, h => by
    simp only [cVals] at h
    split at h
    · rename_i p qs hp hq
      injection h with h
      subst h
      obtain ⟨h1, h2⟩ := cVals_rep hq
      refine ⟨by simp [h1], fun i c hc => ?_⟩
      cases i with
      | zero =>
        simp at hc
        subst hc
        simpa using cVal1_rep hp
      | succ i => simpa using h2 i c (by simpa using hc)
    · cases h
theorem cVal_rep {G : Gh} {own : Nat → Prop} {w : World} {v : Value} {p : PV} (h : cVal v = some p) : Rep G own w v p := by
  unfold cVal at h
  split at h
  · rename_i cs
    obtain ⟨ps, hp, rfl⟩ := Option.map_eq_some_iff.1 h
    obtain ⟨h1, h2⟩ := cVals_rep (G := G) (own := own) (w := w) hp
    exact .agg _ _ (by simpa using h1) (fun i c hc => by have := h2 i c hc; simpa [Array.getD_eq_getD_getElem?, List.getD_eq_getElem?_getD] using this)
  · rename_i cs
    obtain ⟨ps, hp, rfl⟩ := Option.map_eq_some_iff.1 h
    obtain ⟨h1, h2⟩ := cVals_rep (G := G) (own := own) (w := w) hp
    exact .tuple _ _ (by simpa using h1) (fun i c hc => by have := h2 i c hc; simpa [Array.getD_eq_getD_getElem?, List.getD_eq_getElem?_getD] using this)
  · exact cVal1_rep h
section
variable {G : Gh} {own : Nat → Prop} {w : World} {n : Nat} {ρ : Env} {a : Act}
theorem opd_rep (he : EnvRep G own w n ρ a) {x : Operand} {y : Opd} (h : cOpd x = some y) : Rep G own w (a.eval x) (y.ev ρ) := by
  cases x with
  | tmp t => injection h with h; subst h; exact he.at t
  | const v =>
    obtain ⟨p, hp, rfl⟩ := Option.map_eq_some_iff.1 h
    exact cVal_rep hp
  | global g => cases h
  | func f => injection h with h; subst h; exact .func f [] #[] rfl (fun i c hc => by simp at hc)
theorem opds_rep (he : EnvRep G own w n ρ a) : ∀ {xs : List Operand} {ys : List Opd}, cOpds xs = some ys → xs.length = ys.length ∧ ∀ (i : Nat) (c : PV), (ys.map (Opd.ev ρ))[i]? = some c → Rep G own w ((xs.map a.eval).getD i undef) c
  | [], ys, h => by
    injection h with h
    subst h
    exact ⟨rfl, fun i c hc => by simp at hc⟩
  | v :: r, ys, h => by
    simp only [cOpds] at h
    split at h
    · rename_i p qs hp hq
      injection h with h
      subst h
      obtain ⟨h1, h2⟩ := opds_rep he hq
      refine ⟨by simp [h1], fun i c hc => ?_⟩
      cases i with
      | zero =>
        simp at hc
        subst hc
        simpa using opd_rep he hp
      | succ i => simpa using h2 i c (by simpa using hc)
    · cases h
theorem rep_int {v : Value} {k : IntKind} {i : Int} (h : Rep G own w v (.int k i)) : v = .int k i := by cases h; rfl
theorem rep_bool {v : Value} {b : Bool} (h : Rep G own w v (.bool b)) : v = .bool b := by cases h; rfl
theorem rep_str {v : Value} {s : List UInt8} (h : Rep G own w v (.str s)) : v = .string ⟨s.toArray⟩ := by cases h; rfl
theorem rep_agg {v : Value} {cs : List PV} (h : Rep G own w v (.agg cs)) : ∃ vs : Array Value, v = .agg vs ∧ vs.size = cs.length ∧ ∀ (i : Nat) (c : PV), cs[i]? = some c → Rep G own w (vs.getD i undef) c := by
  cases h with
  | agg _ vs hs h => exact ⟨vs, rfl, hs, h⟩
theorem rep_tuple {v : Value} {cs : List PV} (h : Rep G own w v (.tuple cs)) : ∃ vs : Array Value, v = .tuple vs ∧ vs.size = cs.length ∧ ∀ (i : Nat) (c : PV), cs[i]? = some c → Rep G own w (vs.getD i undef) c := by
  cases h with
  | tuple _ vs hs h => exact ⟨vs, rfl, hs, h⟩
theorem rep_cells {v : Value} {p : PV} (h : Rep G own w v p) (hp : p ≠ .junk) : v.cells.size = p.cells.length ∧ ∀ (i : Nat) (c : PV), p.cells[i]? = some c → Rep G own w (v.cells.getD i undef) c := by
  have one : ∀ {u : Value} {q : PV}, Rep G own w u q → ((#[u] : Array Value).size = [q].length ∧ ∀ (i : Nat) (c : PV), [q][i]? = some c → Rep G own w ((#[u] : Array Value).getD i undef) c) := by
    intro u q hq
    refine ⟨rfl, fun i c hc => ?_⟩
    cases i with
    | zero => simp at hc; subst hc; simpa using hq
    | succ i => simp at hc
  cases h with
  | junk => exact absurd rfl hp
  | agg cs vs hs h => exact ⟨hs, h⟩
  | bool b => exact one (.bool b)
  | int k n => exact one (.int k n)
  | str s => exact one (.str s)
  | nilPtr => exact one .nilPtr
  | ptr t off L h => exact one (.ptr t off L h)
  | rptr t g i off L h => exact one (.rptr t g i off L h)
  | iptr cells off b o u hc hr => exact one (.iptr cells off b o u hc hr)
  | nilSl => exact one .nilSl
  | sl xs full b o cap sz adr u hcap hfull hadr hsz hc hr => exact one (.sl xs full b o cap sz adr u hcap hfull hadr hsz hc hr)
  | osl t g off len full L cap a h hcap hL hfull ha hs => exact one (.osl t g off len full L cap a h hcap hL hfull ha hs)
  | vsl t off sz len L cap a h hcap ha hs => exact one (.vsl t off sz len L cap a h hcap ha hs)
  | func f caps vs hs h => exact one (.func f caps vs hs h)
  | nilFunc => exact one .nilFunc
  | iface ty v p h => exact one (.iface ty v p h)
  | nilIface => exact one .nilIface
  | tuple cs vs hs h => exact one (.tuple cs vs hs h)
  | mapv t L h => exact one (.mapv t L h)
end
def aggD : TypeDesc → Bool
  | .struct _ | .array _ _ => true
  | _ => false
def tyOf (P : Program) (t : TypeId) : Option (TypeDesc × TypeInfo) :=
  match P.underlying t, P.info? t with
  | some d, some i => some (d, i)
  | _, _ => none
theorem tyOf_spec {P : Program} {t : TypeId} {d : TypeDesc} {i : TypeInfo} (h : tyOf P t = some (d, i)) : P.underlying t = some d ∧ P.info? t = some i := by
  unfold tyOf at h
  split at h
  · rename_i d' i' h1 h2
    simp only [Option.some.injEq, Prod.mk.injEq] at h
    obtain ⟨rfl, rfl⟩ := h
    exact ⟨h1, h2⟩
  · cases h
section
variable {P : Program} {w : World} {t : TypeId} {d : TypeDesc} {i : TypeInfo}
theorem run_isAgg (h : tyOf P t = some (d, i)) : (isAgg t).run P w = .ok (aggD d) w := by
  unfold isAgg
  rw [Sem.run_bind, run_underlying (tyOf_spec h).1]
  cases d <;> rfl
theorem run_sizeOf (h : tyOf P t = some (d, i)) : (sizeOf t).run P w = .ok i.size w := by
  simp [sizeOf, typeInfo, (tyOf_spec h).2]
theorem run_zeroValue (h : tyOf P t = some (d, i)) {z : Value} (hz : i.zero = some z) : (zeroValue t).run P w = .ok z w := by
  simp [zeroValue, typeInfo, (tyOf_spec h).2, hz]
end
theorem add_at (b o n : Nat) : (⟨b, o, none⟩ : Addr).add n = ⟨b, o + n, none⟩ := by
  unfold Addr.add
  split
  · rename_i h; subst h; rfl
  · rfl
theorem add_spot {a : Addr} (h : a.spot = none) (n : Nat) : (a.add n).spot = none := by
  unfold Addr.add
  split
  · exact h
  · rfl
theorem run_load_cell {P : Program} {w : World} {b o : Nat} {v : Value} (h : cellAt w b o = some v) : (load ⟨b, o, none⟩).run P w = .ok v w := by
  unfold cellAt at h
  rw [run_load, h]
theorem run_loadVar_cells {P : Program} {G : Gh} {own : Nat → Prop} {w : World} {t : TypeId} {d : TypeDesc} {i : TypeInfo} (ht : tyOf P t = some (d, i)) (h1 : aggD d = true ∨ i.size = 1)
    {b o off : Nat} {cs : List PV} (hc : CellsAt G own w b o cs) {q : PV} (hq : slice? cs off i.size (aggD d) = some q) :
    ∃ u, (loadVar t ⟨b, o + off, none⟩).run P w = .ok u w ∧ Rep G own w u q := by
  unfold slice? at hq
  split at hq
  · rename_i hl
    unfold loadVar
    rw [Sem.run_bind, run_isAgg ht]
    simp only [Result.andThen_ok]
    split at hq
    · rename_i hagg
      injection hq with hq
      subst hq
      rw [hagg]
      simp only [if_true]
      have hv : ∀ j, ∃ v, j < i.size → cellAt w b (o + off + j) = some v ∧ ∀ c, cs[off + j]? = some c → Rep G own w v c := by
        intro j
        by_cases hj : j < i.size
        · have : off + j < cs.length := by omega
          obtain ⟨v, h1, h2⟩ := hc (off + j) _ (List.getElem?_eq_getElem this)
          refine ⟨v, fun _ => ⟨by rw [Nat.add_assoc]; exact h1, fun c hcc => ?_⟩⟩
          rw [List.getElem?_eq_getElem this] at hcc
          injection hcc with hcc
          subst hcc
          exact h2
        · exact ⟨undef, fun h => absurd h hj⟩
      obtain ⟨f, hf⟩ := Classical.axiomOfChoice hv
      refine ⟨.agg ((List.range i.size).map f).toArray, ?_, ?_⟩
      · rw [Sem.run_bind, run_sizeOf ht, Result.andThen_ok, Sem.run_bind, run_loadCells w _ _ f (fun j hj => by rw [add_at]; exact (hf j hj).1)]
        rfl
      · refine .agg _ _ (by simp; omega) (fun j c hcj => ?_)
        rw [List.getElem?_take] at hcj
        split at hcj
        · rename_i hj
          rw [List.getElem?_drop] at hcj
          have := (hf j hj).2 c hcj
          simp [hj]
          exact this
        · cases hcj
    · rename_i hagg
      have h1' : i.size = 1 := h1.resolve_left hagg
      have hagg' : aggD d = false := by simpa using hagg
      rw [hagg']
      simp only [Bool.false_eq_true, if_false]
      obtain ⟨v, h2, h3⟩ := hc off q hq
      exact ⟨v, run_load_cell h2, h3⟩
  · cases hq
end Go.AM
set_option linter.unusedVariables false
set_option linter.unusedSimpArgs false
namespace Go.AM
open Go.RowKit
variable [Gl]
section
variable {P : Program} {X : Cx} {st : St} {G : Gh} {w : World}
theorem behind_rep (hI : Inv X st G w) {v : Value} {p : PV} (h : Rep G (OwnF X st G) w v p) {cs : List PV} {off : Nat} (hb : behind st.get p = some (cs, off)) :
    ∃ b o, v = .pointer (some ⟨b, o + off, none⟩) ∧ CellsAt G (OwnF X st G) w b o cs := by
  unfold behind at hb
  split at hb
  · rename_i t off'
    split at hb
    · rename_i cs' hg
      simp only [Option.some.injEq, Prod.mk.injEq] at hb
      obtain ⟨rfl, rfl⟩ := hb
      obtain ⟨L, h1, h2, h3⟩ := hI.toks t _ hg
      cases h with
      | ptr _ _ L' h' =>
        rw [h1] at h'
        injection h' with h'
        subst h'
        exact ⟨_, _, rfl, h3⟩
    · cases hb
  · rename_i t g i off'
    split at hb
    · rename_i g' sz es lv hg
      split at hb
      · rename_i hgg
        subst hgg
        obtain ⟨cs', hcs, hb⟩ := Option.map_eq_some_iff.1 hb
        simp only [Prod.mk.injEq] at hb
        obtain ⟨rfl, rfl⟩ := hb
        obtain ⟨L, h1, h2, h3, h4, h5, h6⟩ := hI.toks t _ hg
        cases h with
        | rptr _ _ _ _ L' h' =>
          rw [h1] at h'
          injection h' with h'
          subst h'
          subst h2
          exact ⟨_, _, rfl, (h5 i cs' hcs).2⟩
      · cases hb
    · cases hb
  · rename_i cs' off'
    simp only [Option.some.injEq, Prod.mk.injEq] at hb
    obtain ⟨rfl, rfl⟩ := hb
    cases h with
    | iptr _ _ b o u hc hr => exact ⟨b, o, rfl, fun i p hi => ⟨u i, (hc i p hi).1, hr i p hi⟩⟩
  · cases hb
def QOk (P : Program) (X : Cx) (st : St) (G : Gh) (w : World) (o : Oper) (a : Act) (p : PV) : Prop :=
  ∃ u w', (execOp a.eval o).run P w = .ok (.value u) w' ∧ Below w.heap.size w w' ∧ Rep G (OwnF X st G) w' u p
theorem qok_same {o : Oper} {a : Act} {p : PV} {u : Value} (h : (execOp a.eval o).run P w = .ok (.value u) w) (hr : Rep G (OwnF X st G) w u p) : QOk P X st G w o a p :=
  ⟨u, w, h, Below.refl _ _, hr⟩
def cLoad (P : Program) (t : TypeId) (x : Operand) : Option PI :=
  match tyOf P t, cOpd x with
  | some (d, i), some y => if aggD d = true ∨ i.size = 1 then some (.load i.size (aggD d) y) else none
  | _, _ => none
theorem q_load (hI : Inv X st G w) {n : Nat} {ρ : Env} {a : Act} (hE : EnvRep G (OwnF X st G) w n ρ a) {o : Oper} {t : TypeId} {x : Operand} (ho : o.op = .load t x) {pi : PI} (hc : cLoad P t x = some pi) {p : PV}
    (hq : quiet st.get (Opd.ev ρ) pi = some p) : QOk P X st G w o a p := by
  unfold cLoad at hc
  split at hc
  · rename_i d i y hT hy
    split at hc
    · rename_i hag
      injection hc with hc
      subst hc
      simp only [quiet, loadAt] at hq
      obtain ⟨⟨cs, off⟩, hb, hs⟩ := Option.bind_eq_some_iff.1 hq
      have hr := opd_rep hE hy
      obtain ⟨b, ob, hv, hcells⟩ := behind_rep hI hr hb
      obtain ⟨u, hu, hru⟩ := run_loadVar_cells (P := P) hT hag hcells hs
      refine qok_same (u := u) ?_ hru
      simp only [execOp, ho, Instr.loadAt, Instr.sureAddr, hv]
      simp [hu]
    · cases hc
  · cases hc
def fieldOf (P : Program) (s : TypeId) (f : Nat) : Option (Field × TypeDesc × TypeInfo) :=
  match P.underlying s with
  | some (.struct fs) => match fs[f]? with
    | some fd => match tyOf P fd.type with
      | some (d, i) => some (fd, d, i)
      | none => none
    | none => none
  | _ => none
theorem fieldOf_spec {s : TypeId} {f : Nat} {fd : Field} {d : TypeDesc} {i : TypeInfo} (h : fieldOf P s f = some (fd, d, i)) : ∃ fs, P.underlying s = some (.struct fs) ∧ fs[f]? = some fd ∧ tyOf P fd.type = some (d, i) := by
  unfold fieldOf at h
  split at h
  · rename_i fs hs
    split at h
    · rename_i fd' hf
      split at h
      · rename_i d' i' hT
        simp only [Option.some.injEq, Prod.mk.injEq] at h
        obtain ⟨rfl, rfl, rfl⟩ := h
        exact ⟨fs, hs, hf, hT⟩
      · cases h
    · cases h
  · cases h
def cFieldAddr (P : Program) (s : TypeId) (x : Operand) (f : Nat) : Option PI :=
  match fieldOf P s f, cOpd x with
  | some (fd, _, i), some y => if i.size ≠ 0 then some (.fieldAddr y fd.offset) else none
  | _, _ => none
theorem fieldAddr_rep {own : Nat → Prop} {v : Value} {p q : PV} (h : Rep G own w v p) {d : Nat} (hq : fieldAddr? d p = some q) : ∃ b o, v = .pointer (some ⟨b, o, none⟩) ∧ Rep G own w (.pointer (some ⟨b, o + d, none⟩)) q := by
  cases h with
  | ptr t off L h => injection hq with hq; subst hq; exact ⟨_, _, rfl, by rw [Nat.add_assoc]; exact .ptr t _ L h⟩
  | rptr t g i off L h => injection hq with hq; subst hq; exact ⟨_, _, rfl, by rw [Nat.add_assoc]; exact .rptr t g i _ L h⟩
  | iptr cells off b o u hc hr => injection hq with hq; subst hq; exact ⟨_, _, rfl, by rw [Nat.add_assoc]; exact .iptr cells _ b o u hc hr⟩
  | _ => cases hq
theorem q_fieldAddr {n : Nat} {ρ : Env} {a : Act} (hE : EnvRep G (OwnF X st G) w n ρ a) {o : Oper} {t : TypeId} {x : Operand} {f : Nat} (ho : o.op = .fieldAddr t x f) {pi : PI} (hc : cFieldAddr P t x f = some pi) {p : PV}
    (hq : quiet st.get (Opd.ev ρ) pi = some p) : QOk P X st G w o a p := by
  unfold cFieldAddr at hc
  split at hc
  · rename_i fd d i y hF hy
    split at hc
    · rename_i hsz
      injection hc with hc
      subst hc
      simp only [quiet] at hq
      obtain ⟨fs, h1, h2, h3⟩ := fieldOf_spec hF
      obtain ⟨b, o', hv, hr⟩ := fieldAddr_rep (opd_rep hE hy) hq
      refine qok_same ?_ hr
      simp only [execOp, ho, Instr.fieldAt, hv]
      simp [run_underlying h1, h2, Instr.sureAddr, fieldPlace, run_sizeOf h3, hsz, add_at]
    · cases hc
  · cases hc
def cField (P : Program) (s : TypeId) (x : Operand) (f : Nat) : Option PI :=
  match fieldOf P s f, cOpd x with
  | some (fd, d, i), some y => if aggD d = true ∨ i.size = 1 then some (.field y fd.offset i.size (aggD d)) else none
  | _, _ => none
theorem run_part {own : Nat → Prop} {t : TypeId} {d : TypeDesc} {i : TypeInfo} (ht : tyOf P t = some (d, i)) (h1 : aggD d = true ∨ i.size = 1) {cs : List PV} {vs : Array Value} (hs : vs.size = cs.length)
    (hv : ∀ (j : Nat) (c : PV), cs[j]? = some c → Rep G own w (vs.getD j undef) c) {off : Nat} {q : PV} (hq : slice? cs off i.size (aggD d) = some q) : ∃ u, (part t vs off).run P w = .ok u w ∧ Rep G own w u q := by
  unfold slice? at hq
  split at hq
  · rename_i hl
    unfold part
    rw [Sem.run_bind, run_isAgg ht]
    simp only [Result.andThen_ok]
    split at hq
    · rename_i hag
      injection hq with hq
      subst hq
      refine ⟨.agg (vs.extract off (off + i.size)), ?_, .agg _ _ (by simp; omega) (fun j c hj => ?_)⟩
      · rw [hag]; simp [run_sizeOf ht]
      · rw [List.getElem?_take] at hj
        split at hj
        · rename_i hlt
          rw [List.getElem?_drop] at hj
          have := hv (off + j) c hj
          simp only [Array.getD_eq_getD_getElem?, Array.getElem?_extract] at this ⊢
          rw [if_pos (by omega)]
          exact this
        · cases hj
    · rename_i hag
      have hag' : aggD d = false := by simpa using hag
      have hlt : off < vs.size := by
        have := (List.getElem?_eq_some_iff.1 hq).1
        omega
      refine ⟨vs[off], ?_, ?_⟩
      · rw [hag']; simp [Array.getElem?_eq_getElem hlt]
      · have := hv off q hq
        simpa [Array.getD_eq_getD_getElem?, Array.getElem?_eq_getElem hlt] using this
  · cases hq
theorem q_field {n : Nat} {ρ : Env} {a : Act} (hE : EnvRep G (OwnF X st G) w n ρ a) {o : Oper} {t : TypeId} {x : Operand} {f : Nat} (ho : o.op = .field t x f) {pi : PI} (hc : cField P t x f = some pi) {p : PV}
    (hq : quiet st.get (Opd.ev ρ) pi = some p) : QOk P X st G w o a p := by
  unfold cField at hc
  split at hc
  · rename_i fd d i y hF hy
    split at hc
    · rename_i hsz
      injection hc with hc
      subst hc
      simp only [quiet] at hq
      obtain ⟨fs, h1, h2, h3⟩ := fieldOf_spec hF
      have hr := opd_rep hE hy
      unfold field? at hq
      split at hq
      · rename_i cs hev
        rw [hev] at hr
        obtain ⟨vs, hv, hs, hrep⟩ := rep_agg hr
        obtain ⟨u, hu, hru⟩ := run_part (P := P) (w := w) h3 hsz hs hrep hq
        refine qok_same (u := u) ?_ hru
        simp only [execOp, ho, Instr.field, hv]
        simp [run_underlying h1, h2, asAgg, hu]
      · cases hq
    · cases hc
  · cases hc
def cIndexAddr (P : Program) (t : TypeId) (x ix : Operand) : Option PI :=
  match P.underlying t, cOpd x, cOpd ix with
  | some (.array len e), some y, some z => match tyOf P e with
    | some (_, i) => some (.indexA y z len i.size)
    | none => none
  | some (.slice e), some y, some z => match tyOf P e with
    | some (_, i) => some (.indexS y z i.size)
    | none => none
  | _, _, _ => none
theorem int?_rep {own : Nat → Prop} {v : Value} {p : PV} {i : Int} (h : Rep G own w v p) (hi : int? p = some i) : ∃ k, v = .int k i := by
  cases h with
  | int k n => injection hi with hi; subst hi; exact ⟨k, rfl⟩
  | _ => cases hi
theorem q_indexAddr (hI : Inv X st G w) {n : Nat} {ρ : Env} {a : Act} (hE : EnvRep G (OwnF X st G) w n ρ a) {o : Oper} {t : TypeId} {x ix : Operand} (ho : o.op = .indexAddr t x ix) {pi : PI} (hc : cIndexAddr P t x ix = some pi) {p : PV}
    (hq : quiet st.get (Opd.ev ρ) pi = some p) : QOk P X st G w o a p := by
  unfold cIndexAddr at hc
  split at hc
  · rename_i len e y z hU hy hz
    split at hc
    · rename_i d i hT
      injection hc with hc
      subst hc
      simp only [quiet] at hq
      obtain ⟨j, hj, hq⟩ := Option.bind_eq_some_iff.1 hq
      obtain ⟨k, hk⟩ := int?_rep (opd_rep hE hz) hj
      unfold indexA? at hq
      split at hq
      · rename_i hb
        obtain ⟨b, o', hv, hr⟩ := fieldAddr_rep (opd_rep hE hy) hq
        refine qok_same ?_ hr
        simp only [execOp, ho, Instr.indexAt, hv, hk]
        simp [run_underlying hU, Instr.sureAddr, asIntOf, run_sizeOf hT, hb, add_at]
      · cases hq
    · cases hc
  · rename_i e y z hU hy hz
    split at hc
    · rename_i d i hT
      injection hc with hc
      subst hc
      simp only [quiet] at hq
      obtain ⟨j, hj, hq⟩ := Option.bind_eq_some_iff.1 hq
      obtain ⟨k, hk⟩ := int?_rep (opd_rep hE hz) hj
      have hr := opd_rep hE hy
      have go : ∀ (b o' len cap : Nat) (q : PV), a.eval x = .slice (some ⟨b, o', none⟩) len cap → 0 ≤ j → j < len → Rep G (OwnF X st G) w (.pointer (some ⟨b, o' + j.toNat * i.size, none⟩)) q → QOk P X st G w o a q := by
        intro b o' len cap q hv h0 h1 hr
        refine qok_same ?_ hr
        simp only [execOp, ho, Instr.indexAt, hv, hk]
        simp [run_underlying hU, Instr.sureAddr, asIntOf, run_sizeOf hT, h0, h1, add_at]
      unfold indexS? at hq
      split at hq
      · rename_i xs fl hev
        rw [hev] at hr
        split at hq
        · rename_i h0
          split at hq
          · rename_i cs hcs
            split at hq
            · rename_i hlen
              injection hq with hq
              subst hq
              generalize hav : a.eval x = vx at hr
              cases hr with
              | sl _ _ b o' cap sz adr u hcap hfull hadr hsz hc' hr' =>
                have hs' := hsz _ _ hcs
                have hlt := (List.getElem?_eq_some_iff.1 hcs).1
                have := hadr (by omega)
                subst this
                refine go b o' xs.length cap _ hav h0 (by omega) ?_
                have : sz = i.size := by omega
                subst this
                exact .iptr cs 0 b (o' + j.toNat * i.size) (u j.toNat) (fun m c hm => hc' _ _ _ _ hcs hm) (fun m c hm => hr' _ _ _ _ hcs hm)
            · cases hq
          · cases hq
        · cases hq
      · rename_i tk g off len fl hev
        rw [hev] at hr
        split at hq
        · rename_i hb
          split at hq
          · rename_i g' sz' es lv hg
            split at hq
            · rename_i hgs
              obtain ⟨rfl, rfl⟩ := hgs
              injection hq with hq
              subst hq
              generalize hav : a.eval x = vx at hr
              cases hr with
              | osl _ _ _ _ _ L cap ad h hcap hL hfull ha =>
                have := ha (by omega)
                subst this
                refine go _ _ len cap _ hav hb.1 hb.2 ?_
                obtain ⟨L', h1, h2, _⟩ := hI.toks tk _ hg
                rw [h1] at h
                injection h with h
                subst h
                have := Rep.rptr (G := G) (own := OwnF X st G) (w := w) tk g' (off + j.toNat) 0 L' h1
                rw [h2, Nat.add_mul] at this
                rw [h2]
                simpa [Nat.add_assoc] using this
            · cases hq
          · cases hq
        · cases hq
      · rename_i tk off sz' len hev
        rw [hev] at hr
        split at hq
        · rename_i hb
          obtain ⟨h0, h1, rfl⟩ := hb
          injection hq with hq
          subst hq
          generalize hav : a.eval x = vx at hr
          cases hr with
          | vsl _ _ _ _ L cap ad h hcap ha =>
            have := ha (by omega)
            subst this
            refine go _ _ len cap _ hav h0 h1 ?_
            rw [Nat.add_assoc]
            exact .ptr tk _ L h
        · cases hq
      · cases hq
    · cases hc
  · cases hc
def cIndex (P : Program) (t : TypeId) (x ix : Operand) : Option PI :=
  match P.underlying t, cOpd x, cOpd ix with
  | some .string, some y, some z => some (.indexStr y z)
  | _, _, _ => none
theorem q_index {n : Nat} {ρ : Env} {a : Act} (hE : EnvRep G (OwnF X st G) w n ρ a) {o : Oper} {t : TypeId} {x ix : Operand} (ho : o.op = .index t x ix) {pi : PI} (hc : cIndex P t x ix = some pi) {p : PV}
    (hq : quiet st.get (Opd.ev ρ) pi = some p) : QOk P X st G w o a p := by
  unfold cIndex at hc
  split at hc
  · rename_i y z hU hy hz
    injection hc with hc
    subst hc
    simp only [quiet] at hq
    obtain ⟨j, hj, hq⟩ := Option.bind_eq_some_iff.1 hq
    obtain ⟨k, hk⟩ := int?_rep (opd_rep hE hz) hj
    have hr := opd_rep hE hy
    unfold indexStr? at hq
    split at hq
    · rename_i s hev
      rw [hev] at hr
      have hv := rep_str hr
      split at hq
      · rename_i h0
        obtain ⟨b, hb, rfl⟩ := Option.map_eq_some_iff.1 hq
        refine qok_same ?_ (.int .u8 b.toNat)
        have hlt := (List.getElem?_eq_some_iff.1 hb)
        obtain ⟨hlt, hb'⟩ := hlt
        simp only [execOp, ho, Instr.index, hv, hk]
        have hx : (⟨s.toArray⟩ : ByteArray)[j.toNat]? = some b := by
          have hsz : j.toNat < (⟨s.toArray⟩ : ByteArray).size := by simpa [ByteArray.size] using hlt
          rw [getElem?_pos (⟨s.toArray⟩ : ByteArray) j.toNat hsz]
          congr 1
        simp [asIntOf, run_underlying hU, h0, hx]
      · cases hq
    · cases hq
  · cases hc
end
end Go.AM
set_option linter.unusedVariables false
set_option linter.unusedSimpArgs false
namespace Go.AM
open Go.RowKit
variable [Gl]
section
variable {P : Program} {X : Cx} {st : St} {G : Gh} {w : World} {n : Nat} {ρ : Env} {a : Act}
theorem q_move (hE : EnvRep G (OwnF X st G) w n ρ a) {o : Oper} {x : Operand} (ho : o.op = .move x ∨ o.op = .assign x) {y : Opd} (hy : cOpd x = some y) : QOk P X st G w o a (y.ev ρ) := by
  refine qok_same (u := a.eval x) ?_ (opd_rep hE hy)
  rcases ho with ho | ho <;> simp [execOp, ho]
theorem q_pick (hE : EnvRep G (OwnF X st G) w n ρ a) {o : Oper} {c x y : Operand} (ho : o.op = .pick c x y) {c' x' y' : Opd} (hc : cOpd c = some c') (hx : cOpd x = some x') (hy : cOpd y = some y') {p : PV}
    (hq : pick? (c'.ev ρ) (x'.ev ρ) (y'.ev ρ) = some p) : QOk P X st G w o a p := by
  have hr := opd_rep hE hc
  unfold pick? at hq
  split at hq
  · rename_i t ht
    rw [ht] at hr
    have hb := rep_bool hr
    injection hq with hq
    subst hq
    refine qok_same (u := if t then a.eval x else a.eval y) ?_ ?_
    · simp [execOp, ho, asBool, hb]
    · cases t
      · exact opd_rep hE hy
      · exact opd_rep hE hx
  · cases hq
theorem q_extract (hE : EnvRep G (OwnF X st G) w n ρ a) {o : Oper} {x : Operand} {i : Nat} (ho : o.op = .extract x i) {y : Opd} (hy : cOpd x = some y) {p : PV} (hq : extract? i (y.ev ρ) = some p) : QOk P X st G w o a p := by
  have hr := opd_rep hE hy
  unfold extract? at hq
  split at hq
  · rename_i vs hvs
    rw [hvs] at hr
    obtain ⟨us, hu, hs, hrep⟩ := rep_tuple hr
    have hlt := (List.getElem?_eq_some_iff.1 hq).1
    have hlt' : i < us.size := by omega
    refine qok_same (u := us[i]) ?_ ?_
    · simp [execOp, ho, Instr.extract, hu, Array.getElem?_eq_getElem hlt']
    · have := hrep i p hq
      simpa [Array.getD_eq_getD_getElem?, Array.getElem?_eq_getElem hlt'] using this
  · cases hq
theorem q_mkIface (hE : EnvRep G (OwnF X st G) w n ρ a) {o : Oper} {t : TypeId} {x : Operand} (ho : o.op = .makeInterface t x) (ht : P.concrete t = true) {y : Opd} (hy : cOpd x = some y) : QOk P X st G w o a (.iface t (y.ev ρ)) := by
  refine qok_same (u := .iface t (a.eval x)) ?_ (.iface _ _ _ (opd_rep hE hy))
  simp [execOp, ho, run_makeInterface w t _ ht]
theorem q_mkFunc (hE : EnvRep G (OwnF X st G) w n ρ a) {o : Oper} {f : Nat} {caps : Array Operand} (ho : o.op = .makeFunc (.func f) #[] caps) {ys : List Opd} (hy : cOpds caps.toList = some ys) : QOk P X st G w o a (.func f (ys.map (Opd.ev ρ))) := by
  obtain ⟨h1, h2⟩ := opds_rep hE hy
  refine qok_same (u := .func (.func f) #[] (caps.map a.eval)) ?_ (.func _ _ _ (by simp; simpa using h1) (fun i c hc => ?_))
  · simp [execOp, ho, Instr.makeFunc]
  · have := h2 i c hc
    simpa [Array.getD_eq_getD_getElem?, List.getD_eq_getElem?_getD] using this
theorem q_nilCheck (hE : EnvRep G (OwnF X st G) w n ρ a) {o : Oper} {x : Operand} (ho : o.op = .nilCheck x) {y : Opd} (hy : cOpd x = some y) {p : PV} (hq : nilCheck? (y.ev ρ) = some p) : QOk P X st G w o a p := by
  have hr := opd_rep hE hy
  generalize hev : y.ev ρ = q at hr hq
  generalize hav : a.eval x = v at hr
  cases hr with
  | ptr t off L h => injection hq with hq; subst hq; exact qok_same (by simp [execOp, ho, hav]) (.ptr t off L h)
  | rptr t g i off L h => injection hq with hq; subst hq; exact qok_same (by simp [execOp, ho, hav]) (.rptr t g i off L h)
  | iptr cells off b o' u hc hr => injection hq with hq; subst hq; exact qok_same (by simp [execOp, ho, hav]) (.iptr cells off b o' u hc hr)
  | _ => cases hq
theorem q_neg (hE : EnvRep G (OwnF X st G) w n ρ a) {o : Oper} {t : TypeId} {x : Operand} (ho : o.op = .unOp .neg t x) {y : Opd} (hy : cOpd x = some y) {p : PV} (hq : neg? (y.ev ρ) = some p) : QOk P X st G w o a p := by
  have hr := opd_rep hE hy
  unfold neg? at hq
  split at hq
  · rename_i k i hev
    rw [hev] at hr
    have hv := rep_int hr
    injection hq with hq
    subst hq
    exact qok_same (by simp [execOp, ho, hv, Op.unary, Op.intArith]) (.int _ _)
  · cases hq
theorem q_not (hE : EnvRep G (OwnF X st G) w n ρ a) {o : Oper} {t : TypeId} {x : Operand} (ho : o.op = .unOp .not t x) {y : Opd} (hy : cOpd x = some y) {p : PV} (hq : not? (y.ev ρ) = some p) : QOk P X st G w o a p := by
  have hr := opd_rep hE hy
  unfold not? at hq
  split at hq
  · rename_i b hev
    rw [hev] at hr
    have hv := rep_bool hr
    injection hq with hq
    subst hq
    exact qok_same (by simp [execOp, ho, hv, Op.unary]) (.bool _)
  · cases hq
theorem q_conv (hE : EnvRep G (OwnF X st G) w n ρ a) {o : Oper} {s t : TypeId} {x : Operand} (ho : o.op = .convert s t x) {k : IntKind} {d : TypeDesc} (hs : P.underlying s = some d) (ht : P.underlying t = some (.int k)) {y : Opd} (hy : cOpd x = some y) {p : PV}
    (hq : conv? k (y.ev ρ) = some p) : QOk P X st G w o a p := by
  have hr := opd_rep hE hy
  unfold conv? at hq
  split at hq
  · rename_i k' i hev
    rw [hev] at hr
    have hv := rep_int hr
    injection hq with hq
    subst hq
    exact qok_same (by simp [execOp, ho, hv, convert, run_underlying hs, run_underlying ht, Conv.intToInt]) (.int _ _)
  · cases hq
theorem q_convStr (hE : EnvRep G (OwnF X st G) w n ρ a) {o : Oper} {s t : TypeId} {x : Operand} (ho : o.op = .convert s t x) (hs : P.underlying s = some .string) (ht : P.underlying t = some .string) {y : Opd} (hy : cOpd x = some y) {u : List UInt8}
    (hq : y.ev ρ = .str u) : QOk P X st G w o a (.str u) := by
  have hr := opd_rep hE hy
  rw [hq] at hr
  have hv := rep_str hr
  exact qok_same (by simp [execOp, ho, hv, convert, run_underlying hs, run_underlying ht]) (.str _)
theorem bytesLess_eq : ∀ a b : List UInt8, Op.bytesLess a b = bytesLess a b
  | [], [] => rfl
  | [], _ :: _ => rfl
  | _ :: _, [] => rfl
  | a :: x, b :: y => by simp only [Op.bytesLess, bytesLess, bytesLess_eq x y]
theorem toList_mk (s : List UInt8) : (⟨s.toArray⟩ : ByteArray).toList = s := by
  simp
theorem run_binInt {own : Nat → Prop} {op : BinOp} {t : TypeId} {k k' : IntKind} {i j : Int} {p : PV} (hk : op = .shl ∨ op = .shr ∨ k = k') (h : binInt op k i j = some p) :
    ∃ u, (binOp op t (.int k i) (.int k' j)).run P w = .ok u w ∧ Rep G own w u p := by
  cases op
  case shl =>
    simp only [binInt] at h
    split at h
    · cases h
    · rename_i hb
      injection h with h; subst h
      exact ⟨_, by simp [binOp, Op.shift, hb], .int _ _⟩
  case shr =>
    simp only [binInt] at h
    split at h
    · cases h
    · rename_i hb
      injection h with h; subst h
      exact ⟨_, by simp [binOp, Op.shift, hb], .int _ _⟩
  case quo =>
    have hk' : k = k' := by simpa using hk
    subst hk'
    simp only [binInt] at h
    split at h
    · cases h
    · rename_i hb
      injection h with h; subst h
      exact ⟨_, by simp [binOp, Op.intDiv, hb], .int _ _⟩
  case rem =>
    have hk' : k = k' := by simpa using hk
    subst hk'
    simp only [binInt] at h
    split at h
    · cases h
    · rename_i hb
      injection h with h; subst h
      exact ⟨_, by simp [binOp, Op.intDiv, hb], .int _ _⟩
  all_goals
    have hk' : k = k' := by simpa using hk
    subst hk'
    simp only [binInt] at h
    injection h with h; subst h
  case add => exact ⟨_, by simp [binOp, Op.intArith], .int _ _⟩
  case sub => exact ⟨_, by simp [binOp, Op.intArith], .int _ _⟩
  case mul => exact ⟨_, by simp [binOp, Op.intArith], .int _ _⟩
  case and => exact ⟨_, by simp only [binOp, Op.intBits, ne_eq, not_true_eq_false, if_false, Sem.run_pure], .int _ _⟩
  case or => exact ⟨_, by simp only [binOp, Op.intBits, ne_eq, not_true_eq_false, if_false, Sem.run_pure], .int _ _⟩
  case xor => exact ⟨_, by simp only [binOp, Op.intBits, ne_eq, not_true_eq_false, if_false, Sem.run_pure], .int _ _⟩
  case andNot => exact ⟨_, by simp only [binOp, Op.intBits, ne_eq, not_true_eq_false, if_false, Sem.run_pure], .int _ _⟩
  case eql => exact ⟨.bool (i == j), by simp only [binOp, Op.intCmp, ne_eq, not_true_eq_false, if_false, Sem.run_pure], by rw [show (i == j) = decide (i = j) by rw [Bool.eq_iff_iff]; simp]; exact .bool _⟩
  case neq => exact ⟨.bool (i != j), by simp only [binOp, Op.intCmp, ne_eq, not_true_eq_false, if_false, Sem.run_pure], by rw [show (i != j) = !decide (i = j) by rw [Bool.eq_iff_iff]; simp]; exact .bool _⟩
  case lss => exact ⟨_, by simp only [binOp, Op.intCmp, ne_eq, not_true_eq_false, if_false, Sem.run_pure], .bool _⟩
  case leq => exact ⟨_, by simp only [binOp, Op.intCmp, ne_eq, not_true_eq_false, if_false, Sem.run_pure], .bool _⟩
  case gtr => exact ⟨_, by simp only [binOp, Op.intCmp, ne_eq, not_true_eq_false, if_false, Sem.run_pure], .bool _⟩
  case geq => exact ⟨_, by simp only [binOp, Op.intCmp, ne_eq, not_true_eq_false, if_false, Sem.run_pure], .bool _⟩
theorem run_binStr {own : Nat → Prop} {op : BinOp} {t : TypeId} {s u : List UInt8} {p : PV} (h : binStr op s u = some p) :
    ∃ v, (binOp op t (.string ⟨s.toArray⟩) (.string ⟨u.toArray⟩)).run P w = .ok v w ∧ Rep G own w v p := by
  have hd : (s == u) = decide (s = u) := by rw [Bool.eq_iff_iff]; simp
  cases op <;> simp only [binStr] at h
  case add =>
    split at h
    · cases h
    · rename_i hb
      injection h with h; subst h
      have : ¬ (((⟨s.toArray⟩ : ByteArray).size + (⟨u.toArray⟩ : ByteArray).size : Nat) : Int) > IntKind.i64.max := by
        intro hc; exact hb (by simpa [ByteArray.size, IntKind.max, IntKind.signed, IntKind.bits] using hc)
      refine ⟨.string (⟨s.toArray⟩ ++ ⟨u.toArray⟩), by simp only [binOp, Op.stringOp, if_neg this]; rfl, ?_⟩
      have : (⟨s.toArray⟩ ++ ⟨u.toArray⟩ : ByteArray) = ⟨(s ++ u).toArray⟩ := by
        apply ByteArray.ext
        simp
      rw [this]
      exact .str _
  all_goals first
    | (cases h; done)
    | (injection h with h; subst h; exact ⟨_, by simp only [binOp, Op.stringOp, toList_mk, bytesLess_eq, hd]; rfl, .bool _⟩)
def intLike : TypeDesc → Bool
  | .bool | .int _ | .string => true
  | _ => false
theorem q_bin (hE : EnvRep G (OwnF X st G) w n ρ a) {o : Oper} {op : BinOp} {t t' : TypeId} {x y : Operand} (ho : o.op = .binOp op t x y t') {d : TypeDesc} (ht : P.underlying t = some d) (hd : intLike d = true) {x' y' : Opd} (hx : cOpd x = some x') (hy : cOpd y = some y') {p : PV}
    (hq : binOp? op (x'.ev ρ) (y'.ev ρ) = some p) : QOk P X st G w o a p := by
  have hrx := opd_rep hE hx
  have hry := opd_rep hE hy
  unfold binOp? at hq
  split at hq
  · rename_i k i k' j hi hj
    rw [hi] at hrx
    rw [hj] at hry
    have h1 := rep_int hrx
    have h2 := rep_int hry
    split at hq
    · rename_i hk
      obtain ⟨u, hu, hr⟩ := run_binInt (P := P) (t := t) (w := w) (G := G) (own := OwnF X st G) hk hq
      refine qok_same (u := u) ?_ hr
      have hg : eqGuard op t x y (.int k i) (.int k' j) = pure () := by cases op <;> rfl
      simp only [execOp, ho, h1, h2, hg]
      simp [hu]
    · cases hq
  · rename_i s u hi hj
    rw [hi] at hrx
    rw [hj] at hry
    have h1 := rep_str hrx
    have h2 := rep_str hry
    obtain ⟨v, hv, hr⟩ := run_binStr (P := P) (t := t) (w := w) (G := G) (own := OwnF X st G) hq
    refine qok_same (u := v) ?_ hr
    have hg : eqGuard op t x y (.string ⟨s.toArray⟩) (.string ⟨u.toArray⟩) = pure () := by cases op <;> rfl
    simp only [execOp, ho, h1, h2, hg]
    simp [hv]
  · cases hq
theorem q_eqBool (hE : EnvRep G (OwnF X st G) w n ρ a) {o : Oper} {neq : Bool} {t t' : TypeId} {x y : Operand} (ho : o.op = .binOp (if neq then .neq else .eql) t x y t') (ht : P.underlying t = some .bool) {x' y' : Opd} (hx : cOpd x = some x') (hy : cOpd y = some y') {b : Bool}
    (hq : eqBool? (x'.ev ρ) (y'.ev ρ) = some b) : QOk P X st G w o a (.bool (if neq then !b else b)) := by
  have hrx := opd_rep hE hx
  have hry := opd_rep hE hy
  unfold eqBool? at hq
  split at hq
  · rename_i b1 b2 hi hj
    rw [hi] at hrx
    rw [hj] at hry
    have h1 := rep_bool hrx
    have h2 := rep_bool hry
    injection hq with hq
    subst hq
    have hg : eqGuard (if neq then .neq else .eql) t x y (.bool b1) (.bool b2) = pure () := by cases neq <;> rfl
    have he : ∀ w : World, (Op.equal t (.bool b1) (.bool b2)).run P w = .ok (b1 == b2) w := fun w => by
      rw [Op.equal, show Op.maxDepth = 9999 + 1 from rfl, Op.equalIn]
      simp [run_underlying ht]
    refine qok_same ?_ (.bool _)
    simp only [execOp, ho, h1, h2, hg]
    cases neq <;> simp [binOp, he]
  · cases hq
def fieldKind (P : Program) (t : TypeId) : Option Nat :=
  match tyOf P t with
  | some (d, i) => if i.size = 1 then (match d with
    | .int _ => some 0
    | .string => some 1
    | .bool => some 2
    | _ => none) else none
  | none => none
def fieldKinds (P : Program) (i : Nat) : List Field → Option (List Nat)
  | [] => some []
  | f :: fs => if f.name ≠ "_" ∧ f.offset = i then (match fieldKind P f.type, fieldKinds P (i + 1) fs with
    | some k, some ks => some (k :: ks)
    | _, _ => none) else none
theorem eqFields_run {own : Nat → Prop} {xs ys : Array Value} {cs ds : List PV} (hx : xs.size = cs.length) (hy : ys.size = ds.length) (rx : ∀ (j : Nat) (c : PV), cs[j]? = some c → Rep G own w (xs.getD j undef) c) (ry : ∀ (j : Nat) (c : PV), ds[j]? = some c → Rep G own w (ys.getD j undef) c) (e : Nat) :
    ∀ (fs : List Field) (i : Nat) (ks : List Nat) (b : Bool), fieldKinds P i fs = some ks → kindsOk ks (cs.drop i) = true → kindsOk ks (ds.drop i) = true → eqCells (cs.drop i) (ds.drop i) = some b → (Op.eqFields (e + 1) xs ys fs).run P w = .ok b w
  | [], i, ks, b, hk, h1, h2, h3 => by
    injection hk with hk
    subst hk
    cases hc : cs.drop i with
    | cons a r => rw [hc] at h1; cases h1
    | nil =>
      cases hd : ds.drop i with
      | cons a r => rw [hd] at h2; cases h2
      | nil =>
        rw [hc, hd] at h3
        injection h3 with h3
        subst h3
        simp [Op.eqFields]
  | f :: fs, i, ks, b, hk, h1, h2, h3 => by
    rw [fieldKinds] at hk
    split at hk
    · rename_i hnm
      obtain ⟨hn, ho⟩ := hnm
      split at hk
      · rename_i k ks' hk1 hk2
        injection hk with hk
        subst hk
        unfold fieldKind at hk1
        split at hk1
        · rename_i d inf hT
          split at hk1
          · rename_i hsz
            obtain ⟨c0, hc⟩ : ∃ c0, cs.drop i = c0 :: cs.drop (i + 1) := by
              cases hc : cs.drop i with
              | nil => rw [hc] at h1; simp [kindsOk] at h1
              | cons a r => exact ⟨a, by rw [← List.tail_drop, hc, List.tail_cons]⟩
            obtain ⟨d0, hd⟩ : ∃ d0, ds.drop i = d0 :: ds.drop (i + 1) := by
              cases hd : ds.drop i with
              | nil => rw [hd] at h2; simp [kindsOk] at h2
              | cons a r => exact ⟨a, by rw [← List.tail_drop, hd, List.tail_cons]⟩
            have gc : cs[i]? = some c0 := by have := congrArg List.head? hc; rw [List.head?_drop] at this; exact this
            have gd : ds[i]? = some d0 := by have := congrArg List.head? hd; rw [List.head?_drop] at this; exact this
            rw [hc] at h1 h3
            rw [hd] at h2 h3
            have hxi := (List.getElem?_eq_some_iff.1 gc).1
            have hyi := (List.getElem?_eq_some_iff.1 gd).1
            have hrx := rx i c0 gc
            have hry := ry i d0 gd
            have step : ∀ (va vb : Value) (r s : Bool), xs.getD i undef = va → ys.getD i undef = vb → aggD d = false → (Op.equalIn (e + 1) f.type va vb).run P w = .ok r w → (Op.eqFields (e + 1) xs ys fs).run P w = .ok s w → (Op.eqFields (e + 1) xs ys (f :: fs)).run P w = .ok (r && s) w := by
              intro va vb r s e1 e2 hag he hr
              have px : (part f.type xs f.offset).run P w = .ok va w := by
                unfold part
                rw [Sem.run_bind, run_isAgg hT, ho]
                simp only [Result.andThen_ok, hag]
                rw [← e1]
                simp [Array.getD_eq_getD_getElem?, Array.getElem?_eq_getElem (show i < xs.size by omega)]
              have py : (part f.type ys f.offset).run P w = .ok vb w := by
                unfold part
                rw [Sem.run_bind, run_isAgg hT, ho]
                simp only [Result.andThen_ok, hag]
                rw [← e2]
                simp [Array.getD_eq_getD_getElem?, Array.getElem?_eq_getElem (show i < ys.size by omega)]
              rw [Op.eqFields]
              simp only [if_pos hn, Sem.run_bind, px, py, he, Result.andThen_ok]
              cases r
              · simp
              · simpa using hr
            have ih := eqFields_run hx hy rx ry e fs (i + 1) ks'
            have hu := (tyOf_spec hT).1
            cases d with
            | int kk =>
              injection hk1 with hk1
              subst hk1
              cases c0 <;> simp only [kindsOk, Bool.false_eq_true] at h1
              cases d0 <;> simp only [kindsOk, Bool.false_eq_true] at h2
              rename_i k1 a k2 b2
              simp only [eqCells] at h3
              split at h3
              · rename_i hkk
                subst hkk
                obtain ⟨s, hs, rfl⟩ := Option.map_eq_some_iff.1 h3
                refine step _ _ _ _ (rep_int hrx) (rep_int hry) rfl ?_ (ih s hk2 h1 h2 hs)
                rw [Op.equalIn]
                simp [run_underlying hu]
                rfl
              · cases h3
            | string =>
              injection hk1 with hk1
              subst hk1
              cases c0 <;> simp only [kindsOk, Bool.false_eq_true] at h1
              cases d0 <;> simp only [kindsOk, Bool.false_eq_true] at h2
              rename_i a b2
              simp only [eqCells] at h3
              obtain ⟨s, hs, rfl⟩ := Option.map_eq_some_iff.1 h3
              refine step _ _ _ _ (rep_str hrx) (rep_str hry) rfl ?_ (ih s hk2 h1 h2 hs)
              have hbb : ((⟨a.toArray⟩ : ByteArray) == ⟨b2.toArray⟩) = decide (a = b2) := by
                show (a.toArray == b2.toArray) = _
                rw [Bool.eq_iff_iff]
                simp
              rw [Op.equalIn]
              simp [run_underlying hu, hbb]
            | bool =>
              injection hk1 with hk1
              subst hk1
              cases c0 <;> simp only [kindsOk, Bool.false_eq_true] at h1
              cases d0 <;> simp only [kindsOk, Bool.false_eq_true] at h2
              rename_i a b2
              simp only [eqCells] at h3
              obtain ⟨s, hs, rfl⟩ := Option.map_eq_some_iff.1 h3
              refine step _ _ _ _ (rep_bool hrx) (rep_bool hry) rfl ?_ (ih s hk2 h1 h2 hs)
              rw [Op.equalIn]
              simp [run_underlying hu]
              rfl
            | _ => cases hk1
          · cases hk1
        · cases hk1
      · cases hk
    · cases hk
theorem fieldKinds_guard (d : Nat) : ∀ (fs : List Field) (i : Nat) (ks : List Nat), fieldKinds P i fs = some ks → (fs.any fun f => f.name != "_" && P.eqGuardType (d + 1) f.type) = false
  | [], _, _, _ => rfl
  | f :: fs, i, ks, hk => by
    rw [fieldKinds] at hk
    split at hk
    · split at hk
      · rename_i k ks' hk1 hk2
        have ih := fieldKinds_guard d fs (i + 1) ks' hk2
        rw [List.any_cons, ih, Bool.or_false]
        unfold fieldKind at hk1
        split at hk1
        · rename_i dd inf hT
          have hu := (tyOf_spec hT).1
          split at hk1
          · rw [Program.eqGuardType, hu]
            cases dd <;> first | (cases hk1; done) | simp
          · cases hk1
        · cases hk1
      · cases hk
    · cases hk
theorem eqGuard_of (t : TypeId) {fs : Array Field} (ht : P.underlying t = some (.struct fs)) {ks : List Nat} (hk : fieldKinds P 0 fs.toList = some ks) : P.eqGuardType P.depth t = false := by
  have := fieldKinds_guard (P := P) (2 * (P.types.size + Made.depth)) fs.toList 0 ks hk
  show P.eqGuardType (2 * (P.types.size + Made.depth) + 1 + 1) t = false
  rw [Program.eqGuardType, ht]
  simpa using this
theorem q_eqAgg (hE : EnvRep G (OwnF X st G) w n ρ a) {o : Oper} {neq : Bool} {t t' : TypeId} {x y : Operand} (ho : o.op = .binOp (if neq then .neq else .eql) t x y t') {fs : Array Field} (ht : P.underlying t = some (.struct fs)) (hp : P.stoodInHeld t = false) {ks : List Nat} (hk : fieldKinds P 0 fs.toList = some ks) {x' y' : Opd} (hx : cOpd x = some x') (hy : cOpd y = some y') {b : Bool}
    (hq : eqAgg? ks (x'.ev ρ) (y'.ev ρ) = some b) : QOk P X st G w o a (.bool (if neq then !b else b)) := by
  have hrx := opd_rep hE hx
  have hry := opd_rep hE hy
  unfold eqAgg? at hq
  split at hq
  · rename_i cs ds hi hj
    split at hq
    · rename_i hkk
      simp only [Bool.and_eq_true] at hkk
      rw [hi] at hrx
      rw [hj] at hry
      obtain ⟨xs, e1, sx, rx⟩ := rep_agg hrx
      obtain ⟨ys, e2, sy, ry⟩ := rep_agg hry
      have hf : P.fieldsOf t = fs := by simp [Program.fieldsOf, ht]
      have he : ∀ w' : World, w' = w → (Op.equal t (.agg xs) (.agg ys)).run P w' = .ok b w' := fun w' hw => by
        subst hw
        rw [Op.equal, show Op.maxDepth = 9998 + 1 + 1 from rfl, run_equalIn_struct (P := P) w' (9998 + 1) t xs ys (by rw [hf]; exact ht) hp, hf]
        exact eqFields_run sx sy rx ry 9998 fs.toList 0 ks b hk (by simpa using hkk.1) (by simpa using hkk.2) (by simpa using hq)
      have hg := run_eqGuard_agg (P := P) w (if neq then .neq else .eql) t x y xs ys (eqGuard_of t ht hk)
      refine qok_same ?_ (.bool _)
      simp only [execOp, ho, e1, e2]
      cases neq <;> simp at hg <;> simp [binOp, hg, he w rfl]
    · cases hq
  · cases hq
end
end Go.AM
set_option linter.unusedVariables false
set_option linter.unusedSimpArgs false
namespace Go.AM
open Go.RowKit
variable [Gl]
section
variable {P : Program} {X : Cx} {st : St} {G : Gh} {w : World} {n : Nat} {ρ : Env} {a : Act}
def nilKind : TypeDesc → Option (Nat × Value)
  | .slice _ => some (0, .slice none 0 0)
  | .pointer _ => some (1, .pointer none)
  | .func _ _ _ => some (2, .nilFunc)
  | .interface _ => some (3, .nilIface)
  | _ => none
def isConstNil (kind : Nat) : Operand → Bool
  | .const (.slice none 0 0) => kind == 0
  | .const (.pointer none) => kind == 1
  | .const .nilFunc => kind == 2
  | .const .nilIface => kind == 3
  | _ => false
theorem isConstNil_spec {d : TypeDesc} {kind : Nat} {z : Value} (hd : nilKind d = some (kind, z)) {y : Operand} (h : isConstNil kind y = true) : y = .const z := by
  have key : ∀ (k : Nat) (z : Value), k = kind → isConstNil k y = true → (k = 0 → z = .slice none 0 0) → (k = 1 → z = .pointer none) → (k = 2 → z = .nilFunc) → (k = 3 → z = .nilIface) → y = .const z := by
    intro k z hk h h0 h1 h2 h3
    unfold isConstNil at h
    split at h
    · rw [h0 (by simpa using h)]
    · rw [h1 (by simpa using h)]
    · rw [h2 (by simpa using h)]
    · rw [h3 (by simpa using h)]
    · cases h
  cases d <;> simp only [nilKind, Option.some.injEq, Prod.mk.injEq, reduceCtorEq] at hd <;> obtain ⟨hk, hz⟩ := hd <;> subst hk <;> subst hz <;>
    exact key _ _ rfl h (by intro h; first | rfl | cases h) (by intro h; first | rfl | cases h) (by intro h; first | rfl | cases h) (by intro h; first | rfl | cases h)
theorem q_eqNil (hE : EnvRep G (OwnF X st G) w n ρ a) {o : Oper} {neq : Bool} {t t' : TypeId} {x : Operand} {d : TypeDesc} {kind : Nat} {z : Value} (hz : nilKind d = some (kind, z)) (ho : o.op = .binOp (if neq then .neq else .eql) t x (.const z) t') (ht : P.underlying t = some d) {x' : Opd} (hx : cOpd x = some x') {b : Bool}
    (hq : isNil kind (x'.ev ρ) = some b) : QOk P X st G w o a (.bool (if neq then !b else b)) := by
  have hr := opd_rep hE hx
  generalize hav : a.eval x = v at hr
  generalize hev : x'.ev ρ = p at hr hq
  have hzv : a.eval (.const z) = z := rfl
  have hg : eqGuard (if neq then .neq else .eql) t x (.const z) v z = pure () := by
    cases d <;> simp only [nilKind, Option.some.injEq, Prod.mk.injEq, reduceCtorEq] at hz <;> obtain ⟨hk, hz⟩ := hz <;> subst hk <;> subst hz <;> cases hr <;> first
      | (simp [isNil] at hq; done)
      | (cases neq <;> simp [eqGuard]; done)
  have he : ∀ w' : World, (Op.equal t v z).run P w' = .ok b w' := fun w' => by
    rw [Op.equal, show Op.maxDepth = 9999 + 1 from rfl, Op.equalIn]
    cases d <;> simp [nilKind] at hz <;> obtain ⟨rfl, rfl⟩ := hz <;> cases hr <;> simp [isNil] at hq <;> subst hq <;> simp [run_underlying ht]
  refine qok_same ?_ (.bool _)
  simp only [execOp, ho, hav, hzv, hg]
  have hb : ∀ w' : World, (binOp (if neq then .neq else .eql) t v z).run P w' = .ok (.bool (if neq then !b else b)) w' := fun w' => by
    cases d <;> simp [nilKind] at hz <;> obtain ⟨rfl, rfl⟩ := hz <;> cases neq <;> cases hr <;> simp [isNil] at hq <;> subst hq <;> simp only [binOp, Bool.false_eq_true, if_false, if_true] <;> simp [he]
  simp [hb]
end
end Go.AM
set_option linter.unusedVariables false
set_option linter.unusedSimpArgs false
namespace Go.AM
open Go.RowKit
variable [Gl]
section
variable {P : Program} {X : Cx} {st : St} {G : Gh} {w : World} {n : Nat} {ρ : Env} {a : Act}
def cOpt : Option Operand → Option (Option Opd)
  | none => some none
  | some x => (cOpd x).map some
theorem opt_rep (hE : EnvRep G (OwnF X st G) w n ρ a) {x : Option Operand} {y : Option Opd} (h : cOpt x = some y) : (x = none ∧ y = none) ∨ ∃ x' y', x = some x' ∧ y = some y' ∧ Rep G (OwnF X st G) w (a.eval x') (y'.ev ρ) := by
  cases x with
  | none => injection h with h; subst h; exact .inl ⟨rfl, rfl⟩
  | some x' =>
    obtain ⟨y', hy, rfl⟩ := Option.map_eq_some_iff.1 h
    exact .inr ⟨x', y', rfl, rfl, opd_rep hE hy⟩
theorem bound_run (hE : EnvRep G (OwnF X st G) w n ρ a) {x : Option Operand} {y : Option Opd} (h : cOpt x = some y) {els lo hi r : Nat} (hb : bound? (y.map (Opd.ev ρ)) els lo hi = some r) :
    (x.map a.eval = none ∧ y = none ∧ r = els) ∨ ∃ k i, x.map a.eval = some (.int k i) ∧ y.isSome = true ∧ (lo : Int) ≤ i ∧ i ≤ hi ∧ r = i.toNat := by
  rcases opt_rep hE h with ⟨rfl, rfl⟩ | ⟨x', y', rfl, rfl, hr⟩
  · simp [bound?] at hb
    exact .inl ⟨rfl, rfl, hb.symm⟩
  · simp only [Option.map_some, bound?] at hb
    split at hb
    · rename_i hh; cases hh
    · rename_i k i hi'
      injection hi' with hi'
      rw [hi'] at hr
      split at hb
      · rename_i hc
        injection hb with hb
        exact .inr ⟨k, i, by simp [rep_int hr], rfl, hc.1, hc.2, hb.symm⟩
      · cases hb
    · cases hb
theorem bounds_run (hE : EnvRep G (OwnF X st G) w n ρ a) {isSlice : Bool} {lo hi mx : Option Operand} {lo' hi' mx' : Option Opd} (hlo : cOpt lo = some lo') (hhi : cOpt hi = some hi') (hmx : cOpt mx = some mx') (hm3 : mx'.isSome = true → hi'.isSome = true)
    {len cap m h l : Nat} (hc : len ≤ cap) (h1 : bound? (mx'.map (Opd.ev ρ)) len 0 len = some m) (h2 : bound? (hi'.map (Opd.ev ρ)) len 0 m = some h) (h3 : bound? (lo'.map (Opd.ev ρ)) 0 0 h = some l) :
    ∃ m', (Instr.sliceBounds isSlice len cap (lo.map a.eval) (hi.map a.eval) (mx.map a.eval)).run P w = .ok (l, h, m') w ∧ (mx'.isSome = true → m' = m) ∧ (mx' = none → m' = cap ∧ m = len) ∧ l ≤ h ∧ h ≤ m ∧ m ≤ len := by
  have b1 := bound_run hE hmx h1
  have b2 := bound_run hE hhi h2
  have b3 := bound_run hE hlo h3
  have hml : m ≤ len := by rcases b1 with ⟨_, _, rfl⟩ | ⟨k, i, _, _, _, hi, rfl⟩ <;> omega
  have hhm : h ≤ m := by
    rcases b2 with ⟨_, hn, rfl⟩ | ⟨k, i, _, _, _, hi, rfl⟩
    · rcases b1 with ⟨_, _, rfl⟩ | ⟨k, i, _, hs, _, hi, rfl⟩
      · exact Nat.le_refl _
      · have := hm3 hs; rw [hn] at this; cases this
    · omega
  have hlh : l ≤ h := by rcases b3 with ⟨_, _, rfl⟩ | ⟨k, i, _, _, _, hi, rfl⟩ <;> omega
  rcases b1 with ⟨e1, n1, r1⟩ | ⟨k1, i1, e1, s1, g1, u1, r1⟩
  · refine ⟨cap, ?_, (fun hs => by rw [n1] at hs; cases hs), fun _ => ⟨rfl, r1⟩, hlh, hhm, hml⟩
    rw [e1]
    rcases b2 with ⟨e2, n2, r2⟩ | ⟨k2, i2, e2, s2, g2, u2, r2⟩ <;> rcases b3 with ⟨e3, n3, r3⟩ | ⟨k3, i3, e3, s3, g3, u3, r3⟩ <;> rw [e2, e3]
    · simp [Instr.sliceBounds, r2, r3]
    · have : (Instr.sliceBound (.int k3 i3) len .sliceB).run P w = .ok i3.toNat w := run_sliceBound w k3 i3 _ _ (by omega) (by omega)
      simp [Instr.sliceBounds, this, r2, r3]
    · have : ∀ c, (Instr.sliceBound (.int k2 i2) cap c).run P w = .ok i2.toNat w := fun c => run_sliceBound w k2 i2 _ _ (by omega) (by omega)
      simp [Instr.sliceBounds, this, r2, r3]
    · have t1 : ∀ c, (Instr.sliceBound (.int k2 i2) cap c).run P w = .ok i2.toNat w := fun c => run_sliceBound w k2 i2 _ _ (by omega) (by omega)
      have t2 : ∀ c, (Instr.sliceBound (.int k3 i3) i2.toNat c).run P w = .ok i3.toNat w := fun c => run_sliceBound w k3 i3 _ _ (by omega) (by omega)
      simp [Instr.sliceBounds, t1, t2, r2, r3]
  · refine ⟨m, ?_, fun _ => rfl, (fun hn => by rw [hn] at s1; cases s1), hlh, hhm, hml⟩
    rw [e1]
    have t1 : ∀ c, (Instr.sliceBound (.int k1 i1) cap c).run P w = .ok i1.toNat w := fun c => run_sliceBound w k1 i1 _ _ (by omega) (by omega)
    rcases b2 with ⟨e2, n2, r2⟩ | ⟨k2, i2, e2, s2, g2, u2, r2⟩
    · have := hm3 s1; rw [n2] at this; cases this
    have t2 : ∀ c, (Instr.sliceBound (.int k2 i2) i1.toNat c).run P w = .ok i2.toNat w := fun c => run_sliceBound w k2 i2 _ _ (by omega) (by omega)
    rcases b3 with ⟨e3, n3, r3⟩ | ⟨k3, i3, e3, s3, g3, u3, r3⟩ <;> rw [e2, e3]
    · simp [Instr.sliceBounds, t1, t2, r1, r2, r3]
    · have t3 : ∀ c, (Instr.sliceBound (.int k3 i3) i2.toNat c).run P w = .ok i3.toNat w := fun c => run_sliceBound w k3 i3 _ _ (by omega) (by omega)
      simp [Instr.sliceBounds, t1, t2, t3, r1, r2, r3]
def cSlice (P : Program) (t : TypeId) (x : Operand) (lo hi mx : Option Operand) : Option PI :=
  match cOpd x, cOpt lo, cOpt hi, cOpt mx with
  | some y, some l, some h, some m =>
    if m.isSome = true ∧ h.isSome = false then none else
    match P.underlying t with
    | some .string => if m.isSome then none else some (.sliceStr y l h)
    | some (.slice e) => match tyOf P e with
      | some (_, i) => some (.sliceSl y i.size l h m)
      | none => none
    | some (.array len e) => match tyOf P e with
      | some (_, i) => some (.sliceArr y len i.size l h m)
      | none => none
    | _ => none
  | _, _, _, _ => none
theorem q_slice (hI : Inv X st G w) (hE : EnvRep G (OwnF X st G) w n ρ a) {o : Oper} {t : TypeId} {x : Operand} {lo hi mx : Option Operand} (ho : o.op = .slice t x lo hi mx) {pi : PI} (hc : cSlice P t x lo hi mx = some pi) {p : PV}
    (hq : quiet st.get (Opd.ev ρ) pi = some p) : QOk P X st G w o a p := by
  unfold cSlice at hc
  split at hc
  rotate_left
  · cases hc
  rename_i y l h m hy hl hh hm
  split at hc
  · cases hc
  rename_i hnm
  have hm3 : m.isSome = true → h.isSome = true := fun hs => by
    cases hb : h.isSome
    · exact absurd ⟨hs, hb⟩ hnm
    · rfl
  have hr := opd_rep hE hy
  split at hc
  · rename_i hU
    split at hc
    · cases hc
    rename_i hms
    injection hc with hc
    subst hc
    simp only [quiet] at hq
    unfold sliceStr? at hq
    split at hq
    · rename_i s hev
      rw [hev] at hr
      have hv := rep_str hr
      obtain ⟨h', hh', hq⟩ := Option.bind_eq_some_iff.1 hq
      obtain ⟨l', hl', rfl⟩ := Option.map_eq_some_iff.1 hq
      have hmn : m = none := by cases m <;> simp_all
      subst hmn
      have hmx0 : mx = none := by
        cases mx with
        | none => rfl
        | some z => simp [cOpt] at hm
      subst hmx0
      obtain ⟨m', hrun, _, _, hlh, hhm, _⟩ := bounds_run (P := P) (isSlice := false) hE hl hh hm (by simp) (len := s.length) (cap := s.length) (Nat.le_refl _) (m := s.length) (by simp [bound?]) hh' hl'
      refine qok_same ?_ (.str _)
      simp only [execOp, ho, Instr.sliceAt, Instr.slice, hv]
      have hsz : (⟨s.toArray⟩ : ByteArray).size = s.length := by simp [ByteArray.size]
      have hex : (⟨s.toArray⟩ : ByteArray).extract l' h' = ⟨((s.drop l').take (h' - l')).toArray⟩ := by
        apply ByteArray.ext
        simp [ByteArray.data_extract, List.extract_eq_take_drop]
      simp only [Option.map_none] at hrun
      simp [run_underlying hU, hsz, hrun, hex]
    · cases hq
  · rename_i e hU
    split at hc
    · rename_i d i hT
      injection hc with hc
      subst hc
      simp only [quiet] at hq
      unfold sliceSl? at hq
      obtain ⟨len, hlen, hq⟩ := Option.bind_eq_some_iff.1 hq
      obtain ⟨m', hm', hq⟩ := Option.bind_eq_some_iff.1 hq
      obtain ⟨h', hh', hq⟩ := Option.bind_eq_some_iff.1 hq
      obtain ⟨l', hl', hq⟩ := Option.bind_eq_some_iff.1 hq
      have hss : (m.map (Opd.ev ρ)).isSome = m.isSome := by cases m <;> rfl
      rw [hss] at hq
      have go : ∀ (ad : Option Addr) (cap : Nat) (q : PV), a.eval x = .slice ad len cap → len ≤ cap →
          (∀ mm, (m.isSome = true → mm = m') → (m = none → mm = cap ∧ m' = len) → l' ≤ h' → h' ≤ m' → m' ≤ len → Rep G (OwnF X st G) w (.slice (if mm = l' then ad else ad.map (·.add (l' * i.size))) (h' - l') (mm - l')) q) → QOk P X st G w o a q := by
        intro ad cap q hv hcap hrep
        obtain ⟨mm, hrun, k1, k2, k3, k4, k5⟩ := bounds_run (P := P) (isSlice := true) hE hl hh hm hm3 hcap hm' hh' hl'
        refine qok_same ?_ (hrep mm k1 k2 k3 k4 k5)
        simp only [execOp, ho, Instr.sliceAt, Instr.slice, hv]
        simp [run_underlying hU, hrun, run_sizeOf hT]
      generalize hav : a.eval x = v at hr
      generalize hev : y.ev ρ = q at hr hq hlen
      cases hr with
      | nilSl =>
        injection hlen with hlen
        subst hlen
        injection hq with hq
        subst hq
        refine go none 0 _ hav (Nat.le_refl _) fun mm k1 k2 k3 k4 k5 => ?_
        have h1 : l' = 0 := by omega
        have h2 : h' = 0 := by omega
        have h3 : mm = 0 := by
          cases hms : m with
          | none => exact (k2 hms).1
          | some z => rw [k1 (by rw [hms]; rfl)]; omega
        subst h1 h2 h3
        exact .nilSl
      | sl xs full b o' cap sz adr u hcap hfull hadr hsz hc' hr' =>
        injection hlen with hlen
        subst hlen
        simp only at hq
        split at hq
        · rename_i hall
          injection hq with hq
          subst hq
          refine go _ cap _ hav hcap fun mm k1 k2 k3 k4 k5 => ?_
          have hmm : m' ≤ mm := by
            cases hms : m with
            | none => have := k2 hms; omega
            | some z => rw [k1 (by rw [hms]; rfl)]; exact Nat.le_refl _
          have hlen' : ((xs.drop l').take (h' - l')).length = h' - l' := by simp; omega
          have hfl : (if m.isSome = true then m' == h' else full && h' == xs.length) = true → mm - l' = h' - l' := by
            intro hf
            cases hms : m with
            | none =>
              rw [hms] at hf
              simp at hf
              have := k2 hms
              have := hfull hf.1
              omega
            | some z =>
              rw [hms] at hf
              simp at hf
              have := k1 (by rw [hms]; rfl)
              omega
          by_cases hml : mm = l'
          · rw [if_pos hml]
            have h0 : h' - l' = 0 := by omega
            have := Rep.sl (G := G) (own := OwnF X st G) (w := w) [] (if m.isSome = true then m' == h' else full && h' == xs.length) b o' (mm - l') 0 adr (fun _ _ => undef) (by simp) (by intro hf; simpa [h0] using hfl hf) (fun hpos => by omega) (fun j cs hj => by simp at hj) (fun j cs i c hj => by simp at hj) (fun j cs i c hj => by simp at hj)
            simpa [h0] using this
          · rw [if_neg hml]
            have hpos : 0 < cap := by
              cases hms : m with
              | none => have := k2 hms; omega
              | some z => have := k1 (by rw [hms]; rfl); omega
            have := hadr hpos
            subst this
            have hstep : ∀ j cs, ((xs.drop l').take (h' - l'))[j]? = some cs → xs[l' + j]? = some cs ∧ cs.length = i.size ∧ sz = i.size := by
              intro j cs hj
              rw [List.getElem?_take] at hj
              split at hj
              · rw [List.getElem?_drop] at hj
                refine ⟨hj, ?_⟩
                have h1 := hsz _ _ hj
                have h2 : cs ∈ xs := List.mem_of_getElem? hj
                have h3 := (List.all_eq_true.1 hall) cs h2
                have h4 : cs.length = i.size := by simpa using h3
                exact ⟨h4, by omega⟩
              · cases hj
            have := Rep.sl (G := G) (own := OwnF X st G) (w := w) ((xs.drop l').take (h' - l')) (if m.isSome = true then m' == h' else full && h' == xs.length) b (o' + l' * i.size) (mm - l') i.size ⟨b, o' + l' * i.size, none⟩ (fun j => u (l' + j)) (by rw [hlen']; omega) (by rw [hlen']; exact hfl) (fun _ => rfl) (fun j cs hj => (hstep j cs hj).2.1)
              (fun j cs q c hj hq' => by
                obtain ⟨s1, s2, s3⟩ := hstep j cs hj
                have := hc' _ _ _ _ s1 hq'
                rw [s3, Nat.add_mul] at this
                rwa [show o' + l' * i.size + j * i.size + q = o' + (l' * i.size + j * i.size) + q by omega])
              (fun j cs q c hj hq' => hr' _ _ _ _ (hstep j cs hj).1 hq')
            rw [hlen'] at this
            simpa [add_at] using this
        · cases hq
      | osl t' g off len' full L cap ad hG hcap hL hfull ha hspot =>
        injection hlen with hlen
        subst hlen
        simp only at hq
        split at hq
        · cases hq
        · rename_i hmh
          split at hq
          · rename_i g' sz' es lv hg
            split at hq
            · rename_i hgs
              obtain ⟨rfl, rfl⟩ := hgs
              injection hq with hq
              subst hq
              obtain ⟨L', h1, h2, _⟩ := hI.toks t' _ hg
              rw [h1] at hG
              injection hG with hG
              subst hG
              refine go _ cap _ hav hcap fun mm k1 k2 k3 k4 k5 => ?_
              have hmm : m' ≤ mm ∧ mm ≤ cap := by
                cases hms : m with
                | none => have := k2 hms; omega
                | some z => have := k1 (by rw [hms]; rfl); omega
              have hfl : (m.isSome || (full && h' == len')) = true → mm - l' = h' - l' := by
                intro hf
                cases hms : m with
                | none =>
                  rw [hms] at hf
                  simp at hf
                  have := k2 hms
                  have := hfull hf.1
                  omega
                | some z =>
                  rw [hms] at hmh
                  simp at hmh
                  have := k1 (by rw [hms]; rfl)
                  omega
              by_cases hml : mm = l'
              · rw [if_pos hml]
                exact .osl t' g' (off + l') (h' - l') _ L' (mm - l') ad h1 (by omega) (by omega) hfl (fun hp => by omega) hspot
              · rw [if_neg hml]
                refine .osl t' g' (off + l') (h' - l') _ L' (mm - l') _ h1 (by omega) (by omega) hfl (fun hp => ?_) (add_spot hspot _)
                have := ha (by omega)
                subst this
                show (⟨L'.blk, L'.off + off * L'.sz, none⟩ : Addr).add (l' * i.size) = _
                rw [add_at, h2, Nat.add_mul, Nat.add_assoc]
            · cases hq
          · cases hq
      | vsl t' off sz' len' L cap ad hG hcap ha hspot =>
        injection hlen with hlen
        subst hlen
        simp only at hq
        split at hq
        · rename_i hs
          subst hs
          injection hq with hq
          subst hq
          refine go _ cap _ hav hcap fun mm k1 k2 k3 k4 k5 => ?_
          have hmm : m' ≤ mm := by
            cases hms : m with
            | none => have := k2 hms; omega
            | some z => have := k1 (by rw [hms]; rfl); omega
          by_cases hml : mm = l'
          · rw [if_pos hml]
            exact .vsl t' _ _ (h' - l') L (mm - l') ad hG (by omega) (fun hp => by omega) hspot
          · rw [if_neg hml]
            refine .vsl t' _ _ (h' - l') L (mm - l') _ hG (by omega) (fun hp => ?_) (add_spot hspot _)
            have := ha (by omega)
            subst this
            show (⟨L.blk, L.off + off, none⟩ : Addr).add (l' * i.size) = _
            rw [add_at, Nat.add_assoc]
        · cases hq
      | str s => cases hq
      | _ => cases hlen
    · cases hc
  · rename_i len e hU
    split at hc
    · rename_i d i hT
      injection hc with hc
      subst hc
      simp only [quiet] at hq
      unfold sliceArr? at hq
      split at hq
      · rename_i t' off hev
        obtain ⟨m', hm', hq⟩ := Option.bind_eq_some_iff.1 hq
        obtain ⟨h', hh', hq⟩ := Option.bind_eq_some_iff.1 hq
        obtain ⟨l', hl', rfl⟩ := Option.map_eq_some_iff.1 hq
        rw [hev] at hr
        generalize hav : a.eval x = v at hr
        cases hr with
        | ptr _ _ L hG =>
          obtain ⟨mm, hrun, k1, k2, k3, k4, k5⟩ := bounds_run (P := P) (isSlice := false) hE hl hh hm hm3 (Nat.le_refl len) hm' hh' hl'
          have hmm : m' ≤ mm := by
            cases hms : m with
            | none => have := k2 hms; omega
            | some z => have := k1 (by rw [hms]; rfl); omega
          refine qok_same (u := .slice (some (if mm = l' then (⟨L.blk, L.off + off, none⟩ : Addr) else (⟨L.blk, L.off + off, none⟩ : Addr).add (l' * i.size))) (h' - l') (mm - l')) ?_ ?_
          · simp only [execOp, ho, Instr.sliceAt, hav]
            simp [run_underlying hU, Instr.sureAddr, hrun, run_sizeOf hT]
          · refine .vsl t' _ _ (h' - l') L (mm - l') _ hG (by omega) (fun hp => ?_) (by split <;> first | rfl | exact add_spot rfl _)
            rw [if_neg (by omega), add_at, Nat.add_assoc]
      · cases hq
    · cases hc
  · cases hc
end
end Go.AM

/- Values: what they are over plain cells; how two stand. -/
import Derived.Test.YtinojffgmgjblaaDoorBytes
set_option linter.unusedVariables false
set_option linter.unusedSimpArgs false
namespace Go.Proofs.YtinojffgmgjblaaDoor
open Go Go.AM Go.RowKit
inductive Val where
  | mk (kind n : Int) (s : List UInt8) (l : List Val)
def Val.kind : Val → Int
  | .mk k _ _ _ => k
def Val.n : Val → Int
  | .mk _ n _ _ => n
def Val.s : Val → List UInt8
  | .mk _ _ s _ => s
def Val.l : Val → List Val
  | .mk _ _ _ l => l
def I64 (x : Int) : Prop := -9223372036854775808 ≤ x ∧ x ≤ 9223372036854775807
inductive VC : Val → List PV → Prop
  | nil (k n : Int) (s : List UInt8) (hk : I64 k) (hn : I64 n) (hs : s.length ≤ 140737488355328) : VC (.mk k n s []) [.int .i64 k, .int .i64 n, .str s, .nilSl]
  | sl (k n : Int) (s : List UInt8) (l : List Val) (xs : List (List PV)) (full : Bool) (hk : I64 k) (hn : I64 n) (hs : s.length ≤ 140737488355328) (hb : l.length ≤ 140737488355328) (hl : xs.length = l.length)
      (h : ∀ (j : Nat) (v : Val) (cs : List PV), l[j]? = some v → xs[j]? = some cs → VC v cs) : VC (.mk k n s l) [.int .i64 k, .int .i64 n, .str s, .sl xs full]
theorem VC.pl {v : Val} {cs : List PV} (h : VC v cs) : ∀ c ∈ cs, Pl c := by
  induction h with
  | nil k n s => exact pl_cons (.int _ _) (pl_cons (.int _ _) (pl_cons (.str _) (pl_cons .nilSl pl_nil)))
  | sl k n s l xs full hk hn hs hb hl h ih =>
    refine pl_cons (.int _ _) (pl_cons (.int _ _) (pl_cons (.str _) (pl_cons (.sl _ _ fun cs hcs c hc => ?_) pl_nil)))
    obtain ⟨j, hj⟩ := List.getElem?_of_mem hcs
    have hlt : j < l.length := by have := (List.getElem?_eq_some_iff.1 hj).1; omega
    exact ih j l[j] cs (List.getElem?_eq_getElem hlt) hj c hc
def cmpI (a b : Int) : Int := if a < b then -1 else if b < a then 1 else 0
def cmpS : List UInt8 → List UInt8 → Int
  | [], [] => 0
  | [], _ :: _ => -1
  | _ :: _, [] => 1
  | a :: x, b :: y => if a = b then cmpS x y else cmpI a.toNat b.toNat
end Go.Proofs.YtinojffgmgjblaaDoor

/- Whether two values are the same; whether all are; whether a value may be: rambleref02. -/
import Derived.Test.YtinojffgmgjblaaGreatDoorValD
set_option linter.unusedVariables false
set_option linter.unusedSimpArgs false
namespace Go.Proofs.YtinojffgmgjblaaGreatDoor
open Go Go.AM Go.RowKit
def risesV : List Val → Bool
  | a :: _ :: c :: r => decide (cmpV a c < 0) && risesV (c :: r)
  | _ => true
def mayV : Nat → Val → Bool
  | 0, _ => false
  | f + 1, .mk k n s l =>
    if k = 1 then decide (s = []) && decide ((l.length : Int) = 0)
    else if k = 3 then decide (s = []) && decide ((l.length : Int) = 0) && (decide (n = 0) || decide (n = 1))
    else if k = 6 then decide (s = []) && decide ((l.length : Int) = 0) && decide (1 ≤ n) && decide (n ≤ 281474976710656)
    else if k = 7 then decide (s = []) && decide ((l.length : Int) = 0) && decide (1 ≤ n) && decide (n ≤ 281474976710656)
    else if k = 2 then decide (n = 0) && decide ((l.length : Int) = 0) && decide ((s.length : Int) ≤ 128)
    else if k = 4 then decide (n = 0) && decide (s = []) && decide ((l.length : Int) ≤ 256) && l.all (mayV f)
    else if k = 5 then decide (n = 0) && decide (s = []) && decide ((l.length : Int) ≤ 512) && decide ((l.length : Int).tmod 2 = 0) && l.all (mayV f) && risesV l
    else false
end Go.Proofs.YtinojffgmgjblaaGreatDoor

/-
  DERIVED. GIVEN WITH THE SEED: THE CARDS: each row of YtinojffgmgjblaaGreatDoorRows.lean that lists a variable, with what it lists TIED to the program's text (the seventh form; the later family's looks); each row that meets fmt, with fmt's text TOLD by the authors' own Lean function (tested against real Go, not proved from fmt's source: count such statements apart). THE CARD IS WHAT COUNTS. Prove the row's statement (the work); the ties are given (YtinojffgmgjblaaGreatDoorTie.lean); close each card by the builder's one call (the guide's Derived/Test/ToyasCard.lean, 'card_holds'). Laid BY PROGRAM, IN A SANDBOX (cutbox-door.mjs). By AI agents, Wed Nov 11 2026. No macro, syntax, notation, axiom, sorry.
-/
import Derived.Test.YtinojffgmgjblaaGreatDoorRows
import GoSem.ClaimSeven
namespace Go.Proofs.YtinojffgmgjblaaGreatDoor
namespace Rows

/-- THE TIED CARD OF 'ramblelaw17.CheckBehind'. -/
def checkBehindCard : Claim7 := { stood := { row := checkBehindRow, standIns := [], harness := (true, "11e9f9c8de2767fcf677eed3201999a4eda97f43aab16d7f4a1bb75685984b89"), looks := false }, kinds := [], alts := [], laidByText := true, laidKinds := [.data, .pinned], laidTests := true, laidLooks := .later }
def CheckBehindCardSaid : Prop := Claim7.holds Tryz.pinned (.plain (OpenSpec.ofChange checkBehindSpec)) checkBehindCard

/-- THE SECOND FORM's CARD OF 'ramblelaw17.CheckBehind'. -/
def checkBehindUptoCard : Claim7 := { stood := { row := checkBehindUptoRow, standIns := [], harness := (true, "11e9f9c8de2767fcf677eed3201999a4eda97f43aab16d7f4a1bb75685984b89"), looks := false }, kinds := [], alts := [], laidByText := true, laidKinds := [.data, .pinned], laidTests := true, laidLooks := .later }
def CheckBehindUptoCardSaid : Prop := Claim7.holds Tryz.pinned (.plain (OpenSpec.upto checkBehindSpec)) checkBehindUptoCard
end Rows
end Go.Proofs.YtinojffgmgjblaaGreatDoor

/-
  DERIVED. GIVEN WITH THE SEED: THE CARDS: each row of YtgdjnlopdpjnaaaGreatDoorRows.lean that lists a variable, with what it lists TIED to the program's text (the seventh form; the later family's looks); each row that meets fmt, with fmt's text TOLD by the authors' own Lean function (tested against real Go, not proved from fmt's source: count such statements apart). THE CARD IS WHAT COUNTS. Prove the row's statement (the work); the ties are given (YtgdjnlopdpjnaaaGreatDoorTie.lean); close each card by the builder's one call (the guide's Derived/Test/ToyasCard.lean, 'card_holds'). Laid BY PROGRAM, IN A SANDBOX (cutbox-door.mjs). By AI agents, Wed Nov 11 2026. No macro, syntax, notation, axiom, sorry.
-/
import Derived.Test.YtgdjnlopdpjnaaaGreatDoorRows
import GoSem.ClaimSeven
namespace Go.Proofs.YtgdjnlopdpjnaaaGreatDoor
namespace Rows

/-- THE TIED CARD OF 'ramblelaw11.KeysTogether'. -/
def keysTogetherCard : Claim7 := { stood := { row := keysTogetherRow, standIns := [], harness := (true, "fef2762bc2bd3401576409773c22b4620c566e6e33ba90edcbcacd4fff8d8b3e"), looks := false }, kinds := [], alts := [], laidByText := true, laidKinds := [.data, .pinned], laidTests := true, laidLooks := .later }
def KeysTogetherCardSaid : Prop := Claim7.holds Tryz.pinned (.plain (OpenSpec.ofChange keysTogetherSpec)) keysTogetherCard

/-- THE TIED CARD OF 'ramblelaw11.KeysEntries'. -/
def keysEntriesCard : Claim7 := { stood := { row := keysEntriesRow, standIns := [], harness := (true, "fef2762bc2bd3401576409773c22b4620c566e6e33ba90edcbcacd4fff8d8b3e"), looks := false }, kinds := [], alts := [], laidByText := true, laidKinds := [.data, .pinned], laidTests := true, laidLooks := .later }
def KeysEntriesCardSaid : Prop := Claim7.holds Tryz.pinned (.plain (OpenSpec.ofChange keysEntriesSpec)) keysEntriesCard

/-- THE TIED CARD OF 'ramblelaw11.KeysBack'. -/
def keysBackCard : Claim7 := { stood := { row := keysBackRow, standIns := [], harness := (true, "fef2762bc2bd3401576409773c22b4620c566e6e33ba90edcbcacd4fff8d8b3e"), looks := false }, kinds := [], alts := [], laidByText := true, laidKinds := [.data, .pinned], laidTests := true, laidLooks := .later }
def KeysBackCardSaid : Prop := Claim7.holds Tryz.pinned (.plain (OpenSpec.ofChange keysBackSpec)) keysBackCard

/-- THE SECOND FORM's CARD OF 'ramblelaw11.KeysTogether'. -/
def keysTogetherUptoCard : Claim7 := { stood := { row := keysTogetherUptoRow, standIns := [], harness := (true, "fef2762bc2bd3401576409773c22b4620c566e6e33ba90edcbcacd4fff8d8b3e"), looks := false }, kinds := [], alts := [], laidByText := true, laidKinds := [.data, .pinned], laidTests := true, laidLooks := .later }
def KeysTogetherUptoCardSaid : Prop := Claim7.holds Tryz.pinned (.plain (OpenSpec.upto keysTogetherSpec)) keysTogetherUptoCard

/-- THE SECOND FORM's CARD OF 'ramblelaw11.KeysEntries'. -/
def keysEntriesUptoCard : Claim7 := { stood := { row := keysEntriesUptoRow, standIns := [], harness := (true, "fef2762bc2bd3401576409773c22b4620c566e6e33ba90edcbcacd4fff8d8b3e"), looks := false }, kinds := [], alts := [], laidByText := true, laidKinds := [.data, .pinned], laidTests := true, laidLooks := .later }
def KeysEntriesUptoCardSaid : Prop := Claim7.holds Tryz.pinned (.plain (OpenSpec.upto keysEntriesSpec)) keysEntriesUptoCard

/-- THE SECOND FORM's CARD OF 'ramblelaw11.KeysBack'. -/
def keysBackUptoCard : Claim7 := { stood := { row := keysBackUptoRow, standIns := [], harness := (true, "fef2762bc2bd3401576409773c22b4620c566e6e33ba90edcbcacd4fff8d8b3e"), looks := false }, kinds := [], alts := [], laidByText := true, laidKinds := [.data, .pinned], laidTests := true, laidLooks := .later }
def KeysBackUptoCardSaid : Prop := Claim7.holds Tryz.pinned (.plain (OpenSpec.upto keysBackSpec)) keysBackUptoCard
end Rows
end Go.Proofs.YtgdjnlopdpjnaaaGreatDoor

/-
  DERIVED. GIVEN WITH THE SEED: THE CARDS: each row of YtnedeokclnbcpaaGreatDoorRows.lean that lists a variable, with what it lists TIED to the program's text (the seventh form; the later family's looks); each row that meets fmt, with fmt's text TOLD by the authors' own Lean function (tested against real Go, not proved from fmt's source: count such statements apart). THE CARD IS WHAT COUNTS. Prove the row's statement (the work); the ties are given (YtnedeokclnbcpaaGreatDoorTie.lean); close each card by the builder's one call (the guide's Derived/Test/ToyasCard.lean, 'card_holds'). Laid BY PROGRAM, IN A SANDBOX (cutbox-door.mjs). By AI agents, Wed Nov 11 2026. No macro, syntax, notation, axiom, sorry.
-/
import Derived.Test.YtnedeokclnbcpaaGreatDoorRows
import GoSem.ClaimSeven
namespace Go.Proofs.YtnedeokclnbcpaaGreatDoor
namespace Rows

/-- THE TIED CARD OF 'ramblelaw20.RewriteIs'. -/
def rewriteIsCard : Claim7 := { stood := { row := rewriteIsRow, standIns := [], harness := (true, "0d806874bdf909729e2af2b3767312628089943cb456f368d26faab08bf7ad82"), looks := false }, kinds := [], alts := [], laidByText := true, laidKinds := [.data, .pinned], laidTests := true, laidLooks := .later }
def RewriteIsCardSaid : Prop := Claim7.holds Tryz.pinned (.plain (OpenSpec.ofChange rewriteIsSpec)) rewriteIsCard

/-- THE TIED CARD OF 'ramblelaw20.RewriteSame'. -/
def rewriteSameCard : Claim7 := { stood := { row := rewriteSameRow, standIns := [], harness := (true, "0d806874bdf909729e2af2b3767312628089943cb456f368d26faab08bf7ad82"), looks := false }, kinds := [], alts := [], laidByText := true, laidKinds := [.data, .pinned], laidTests := true, laidLooks := .later }
def RewriteSameCardSaid : Prop := Claim7.holds Tryz.pinned (.plain (OpenSpec.ofChange rewriteSameSpec)) rewriteSameCard

/-- THE TIED CARD OF 'ramblelaw20.RewriteOnce'. -/
def rewriteOnceCard : Claim7 := { stood := { row := rewriteOnceRow, standIns := [], harness := (true, "0d806874bdf909729e2af2b3767312628089943cb456f368d26faab08bf7ad82"), looks := false }, kinds := [], alts := [], laidByText := true, laidKinds := [.data, .pinned], laidTests := true, laidLooks := .later }
def RewriteOnceCardSaid : Prop := Claim7.holds Tryz.pinned (.plain (OpenSpec.ofChange rewriteOnceSpec)) rewriteOnceCard

/-- THE TIED CARD OF 'ramblelaw20.RewriteKinds'. -/
def rewriteKindsCard : Claim7 := { stood := { row := rewriteKindsRow, standIns := [], harness := (true, "0d806874bdf909729e2af2b3767312628089943cb456f368d26faab08bf7ad82"), looks := false }, kinds := [], alts := [], laidByText := true, laidKinds := [.data, .pinned], laidTests := true, laidLooks := .later }
def RewriteKindsCardSaid : Prop := Claim7.holds Tryz.pinned (.plain (OpenSpec.ofChange rewriteKindsSpec)) rewriteKindsCard

/-- THE TIED CARD OF 'ramblelaw20.RewriteTrim'. -/
def rewriteTrimCard : Claim7 := { stood := { row := rewriteTrimRow, standIns := [], harness := (true, "0d806874bdf909729e2af2b3767312628089943cb456f368d26faab08bf7ad82"), looks := false }, kinds := [], alts := [], laidByText := true, laidKinds := [.data, .pinned], laidTests := true, laidLooks := .later }
def RewriteTrimCardSaid : Prop := Claim7.holds Tryz.pinned (.plain (OpenSpec.ofChange rewriteTrimSpec)) rewriteTrimCard

/-- THE TIED CARD OF 'ramblelaw20.RewriteSimple'. -/
def rewriteSimpleCard : Claim7 := { stood := { row := rewriteSimpleRow, standIns := [], harness := (true, "0d806874bdf909729e2af2b3767312628089943cb456f368d26faab08bf7ad82"), looks := false }, kinds := [], alts := [], laidByText := true, laidKinds := [.data, .pinned], laidTests := true, laidLooks := .later }
def RewriteSimpleCardSaid : Prop := Claim7.holds Tryz.pinned (.plain (OpenSpec.ofChange rewriteSimpleSpec)) rewriteSimpleCard

/-- THE TIED CARD OF 'ramblelaw20.RewriteRules'. -/
def rewriteRulesCard : Claim7 := { stood := { row := rewriteRulesRow, standIns := [], harness := (true, "0d806874bdf909729e2af2b3767312628089943cb456f368d26faab08bf7ad82"), looks := false }, kinds := [], alts := [], laidByText := true, laidKinds := [.data, .pinned], laidTests := true, laidLooks := .later }
def RewriteRulesCardSaid : Prop := Claim7.holds Tryz.pinned (.plain (OpenSpec.ofChange rewriteRulesSpec)) rewriteRulesCard

/-- THE SECOND FORM's CARD OF 'ramblelaw20.RewriteIs'. -/
def rewriteIsUptoCard : Claim7 := { stood := { row := rewriteIsUptoRow, standIns := [], harness := (true, "0d806874bdf909729e2af2b3767312628089943cb456f368d26faab08bf7ad82"), looks := false }, kinds := [], alts := [], laidByText := true, laidKinds := [.data, .pinned], laidTests := true, laidLooks := .later }
def RewriteIsUptoCardSaid : Prop := Claim7.holds Tryz.pinned (.plain (OpenSpec.upto rewriteIsSpec)) rewriteIsUptoCard

/-- THE SECOND FORM's CARD OF 'ramblelaw20.RewriteSame'. -/
def rewriteSameUptoCard : Claim7 := { stood := { row := rewriteSameUptoRow, standIns := [], harness := (true, "0d806874bdf909729e2af2b3767312628089943cb456f368d26faab08bf7ad82"), looks := false }, kinds := [], alts := [], laidByText := true, laidKinds := [.data, .pinned], laidTests := true, laidLooks := .later }
def RewriteSameUptoCardSaid : Prop := Claim7.holds Tryz.pinned (.plain (OpenSpec.upto rewriteSameSpec)) rewriteSameUptoCard

/-- THE SECOND FORM's CARD OF 'ramblelaw20.RewriteOnce'. -/
def rewriteOnceUptoCard : Claim7 := { stood := { row := rewriteOnceUptoRow, standIns := [], harness := (true, "0d806874bdf909729e2af2b3767312628089943cb456f368d26faab08bf7ad82"), looks := false }, kinds := [], alts := [], laidByText := true, laidKinds := [.data, .pinned], laidTests := true, laidLooks := .later }
def RewriteOnceUptoCardSaid : Prop := Claim7.holds Tryz.pinned (.plain (OpenSpec.upto rewriteOnceSpec)) rewriteOnceUptoCard

/-- THE SECOND FORM's CARD OF 'ramblelaw20.RewriteKinds'. -/
def rewriteKindsUptoCard : Claim7 := { stood := { row := rewriteKindsUptoRow, standIns := [], harness := (true, "0d806874bdf909729e2af2b3767312628089943cb456f368d26faab08bf7ad82"), looks := false }, kinds := [], alts := [], laidByText := true, laidKinds := [.data, .pinned], laidTests := true, laidLooks := .later }
def RewriteKindsUptoCardSaid : Prop := Claim7.holds Tryz.pinned (.plain (OpenSpec.upto rewriteKindsSpec)) rewriteKindsUptoCard

/-- THE SECOND FORM's CARD OF 'ramblelaw20.RewriteTrim'. -/
def rewriteTrimUptoCard : Claim7 := { stood := { row := rewriteTrimUptoRow, standIns := [], harness := (true, "0d806874bdf909729e2af2b3767312628089943cb456f368d26faab08bf7ad82"), looks := false }, kinds := [], alts := [], laidByText := true, laidKinds := [.data, .pinned], laidTests := true, laidLooks := .later }
def RewriteTrimUptoCardSaid : Prop := Claim7.holds Tryz.pinned (.plain (OpenSpec.upto rewriteTrimSpec)) rewriteTrimUptoCard

/-- THE SECOND FORM's CARD OF 'ramblelaw20.RewriteSimple'. -/
def rewriteSimpleUptoCard : Claim7 := { stood := { row := rewriteSimpleUptoRow, standIns := [], harness := (true, "0d806874bdf909729e2af2b3767312628089943cb456f368d26faab08bf7ad82"), looks := false }, kinds := [], alts := [], laidByText := true, laidKinds := [.data, .pinned], laidTests := true, laidLooks := .later }
def RewriteSimpleUptoCardSaid : Prop := Claim7.holds Tryz.pinned (.plain (OpenSpec.upto rewriteSimpleSpec)) rewriteSimpleUptoCard

/-- THE SECOND FORM's CARD OF 'ramblelaw20.RewriteRules'. -/
def rewriteRulesUptoCard : Claim7 := { stood := { row := rewriteRulesUptoRow, standIns := [], harness := (true, "0d806874bdf909729e2af2b3767312628089943cb456f368d26faab08bf7ad82"), looks := false }, kinds := [], alts := [], laidByText := true, laidKinds := [.data, .pinned], laidTests := true, laidLooks := .later }
def RewriteRulesUptoCardSaid : Prop := Claim7.holds Tryz.pinned (.plain (OpenSpec.upto rewriteRulesSpec)) rewriteRulesUptoCard
end Rows
end Go.Proofs.YtnedeokclnbcpaaGreatDoor

/-
  NARROWER THAN 'FOR EVERY INPUT', by the rows' own cells (each row's printed sentence says how): RewriteIs: loops, laid · RewriteSame: loops, laid · RewriteOnce: loops, laid · RewriteKinds: loops, laid · RewriteTrim: loops, laid · RewriteSimple: loops, laid · RewriteRules: loops, laid.
  DERIVED. THE GIVEN ROWS OF THIS SEAT. 7 by the template 'for every input the law returns true; each argument reads behind the call as it read before'; 0 by the template 'total and deterministic' (their statements: YtnedeokclnbcpaaGreatDoorTotals.lean).
  GIVEN WITH THE SEED: the statements are not yours to turn. If you find one false, say at which input.
  Laid BY PROGRAM, IN A SANDBOX (cutbox-rows.mjs): the forced cells as the released guide's own fill.sh prints them over the translation 07695222051bcef5… (all of the seat's roots in one cut). By AI agents, Wed Nov 11 2026. No macro, syntax, notation, axiom, sorry.
-/
import Derived.Test.YtnedeokclnbcpaaGreatDoorChecked
import GoSem.PinnedTables
import GoSem.Claim
import GoSem.ClaimJoined
import GoSem.ClaimMapViews
import Derived.JoinedTies
import Derived.KernelRfl
namespace Go.Proofs.YtnedeokclnbcpaaGreatDoor
/- THE CELL 'sum', in the pinned program and in every row, IS THE sha256 OF THE DUMP (.gsa) THAT YtnedeokclnbcpaaGreatDoorProg.lean LOADS. Nothing in Lean hashes anything: it is a label: what it is worth is what the hold of that sum in a sandbox is worth. -/
noncomputable def Tryz.pinned : Pinned := { name := "ytnedeokclnbcpaagreatdoor", sum := "07695222051bcef58ee4d9758a9e9c6ac7d43d8631f18bb58ea487a53d406b78", checked := Tryz.checked }
namespace Rows
def none {H : Type} : Left H := { results := [], args := [] }

/- WHAT THE LISTED PACKAGE-LEVEL VARIABLES READ AS WHEN THE CALL BEGINS. Each datum BY PROGRAM (the guide's laid-datum.mjs) off the statement by which the dump's own 'gosem.cut.vars' lays the variable. In a bare row this is a premise. The card (YtnedeokclnbcpaaGreatDoorCards.lean) ties it to the program's text. -/
def laid_unicode_utf8_acceptRanges {H : Type} : DataW H := .agg [.agg [.lit (.int .u8 128), .lit (.int .u8 191)], .agg [.lit (.int .u8 160), .lit (.int .u8 191)], .agg [.lit (.int .u8 128), .lit (.int .u8 159)], .agg [.lit (.int .u8 144), .lit (.int .u8 191)], .agg [.lit (.int .u8 128), .lit (.int .u8 143)], .agg [.lit (.int .u8 0), .lit (.int .u8 0)], .agg [.lit (.int .u8 0), .lit (.int .u8 0)], .agg [.lit (.int .u8 0), .lit (.int .u8 0)], .agg [.lit (.int .u8 0), .lit (.int .u8 0)], .agg [.lit (.int .u8 0), .lit (.int .u8 0)], .agg [.lit (.int .u8 0), .lit (.int .u8 0)], .agg [.lit (.int .u8 0), .lit (.int .u8 0)], .agg [.lit (.int .u8 0), .lit (.int .u8 0)], .agg [.lit (.int .u8 0), .lit (.int .u8 0)], .agg [.lit (.int .u8 0), .lit (.int .u8 0)], .agg [.lit (.int .u8 0), .lit (.int .u8 0)]]
/-- One of Go's own tables, pinned by name: the form's constant. -/
def laid_unicode_utf8_first : DataW Unit := Go.Pinned.utf8First

/-- 'ramblelaw20.RewriteIs': WHATEVER THE INPUT: true; the input reads as it did. -/
def rewriteIsSpec : ChangeSpec := { name := "rewriteIs", fn := fun _ => fun
  | [d] => { results := [.lit (.bool true)], args := [d] }
  | _ => none }
def rewriteIsRow : OpenClaim := { program := "ytnedeokclnbcpaagreatdoor", sum := "07695222051bcef58ee4d9758a9e9c6ac7d43d8631f18bb58ea487a53d406b78", func := "ramble/ramblelaw20.RewriteIs", spec := "rewriteIs", inPlace := ["internal/bytealg.CountString", "internal/bytealg.IndexByteString", "internal/bytealg.IndexString", "internal/bytealg.abigen_runtime_cmpstring"], unfollowed := true, recurses := true, named := ["unicode/utf8.first", "unicode/utf8.acceptRanges", "internal/bytealg.MaxLen"], loops := true, apart := false, laid := [("unicode/utf8.acceptRanges", laid_unicode_utf8_acceptRanges), ("unicode/utf8.first", laid_unicode_utf8_first)] }
def RewriteIsSaid : Prop := rewriteIsRow.holds Tryz.pinned (OpenSpec.ofChange rewriteIsSpec)

/-- ITS FALSE NEIGHBOUR: 'it returns false'. Refute it at one input. -/
def rewriteIsWrong : ChangeSpec := { name := "rewriteIs", fn := fun _ => fun
  | [d] => { results := [.lit (.bool false)], args := [d] }
  | _ => none }
def RewriteIsWrongFalsely : Prop := rewriteIsRow.holds Tryz.pinned (OpenSpec.ofChange rewriteIsWrong)

/-- 'ramblelaw20.RewriteSame': WHATEVER THE INPUT: true; the input reads as it did. -/
def rewriteSameSpec : ChangeSpec := { name := "rewriteSame", fn := fun _ => fun
  | [d1, d2, d3, d4] => { results := [.lit (.bool true)], args := [d1, d2, d3, d4] }
  | _ => none }
def rewriteSameRow : OpenClaim := { program := "ytnedeokclnbcpaagreatdoor", sum := "07695222051bcef58ee4d9758a9e9c6ac7d43d8631f18bb58ea487a53d406b78", func := "ramble/ramblelaw20.RewriteSame", spec := "rewriteSame", inPlace := ["internal/bytealg.CountString", "internal/bytealg.IndexByteString", "internal/bytealg.IndexString", "internal/bytealg.abigen_runtime_cmpstring"], unfollowed := true, recurses := true, named := ["unicode/utf8.first", "unicode/utf8.acceptRanges", "internal/bytealg.MaxLen"], loops := true, apart := false, laid := [("unicode/utf8.acceptRanges", laid_unicode_utf8_acceptRanges), ("unicode/utf8.first", laid_unicode_utf8_first)] }
def RewriteSameSaid : Prop := rewriteSameRow.holds Tryz.pinned (OpenSpec.ofChange rewriteSameSpec)

/-- ITS FALSE NEIGHBOUR: 'it returns false'. Refute it at one input. -/
def rewriteSameWrong : ChangeSpec := { name := "rewriteSame", fn := fun _ => fun
  | [d1, d2, d3, d4] => { results := [.lit (.bool false)], args := [d1, d2, d3, d4] }
  | _ => none }
def RewriteSameWrongFalsely : Prop := rewriteSameRow.holds Tryz.pinned (OpenSpec.ofChange rewriteSameWrong)

/-- 'ramblelaw20.RewriteOnce': WHATEVER THE INPUT: true; the input reads as it did. -/
def rewriteOnceSpec : ChangeSpec := { name := "rewriteOnce", fn := fun _ => fun
  | [d] => { results := [.lit (.bool true)], args := [d] }
  | _ => none }
def rewriteOnceRow : OpenClaim := { program := "ytnedeokclnbcpaagreatdoor", sum := "07695222051bcef58ee4d9758a9e9c6ac7d43d8631f18bb58ea487a53d406b78", func := "ramble/ramblelaw20.RewriteOnce", spec := "rewriteOnce", inPlace := ["internal/bytealg.CountString", "internal/bytealg.IndexByteString", "internal/bytealg.IndexString", "internal/bytealg.abigen_runtime_cmpstring"], unfollowed := true, recurses := true, named := ["unicode/utf8.first", "unicode/utf8.acceptRanges", "internal/bytealg.MaxLen"], loops := true, apart := false, laid := [("unicode/utf8.acceptRanges", laid_unicode_utf8_acceptRanges), ("unicode/utf8.first", laid_unicode_utf8_first)] }
def RewriteOnceSaid : Prop := rewriteOnceRow.holds Tryz.pinned (OpenSpec.ofChange rewriteOnceSpec)

/-- ITS FALSE NEIGHBOUR: 'it returns false'. Refute it at one input. -/
def rewriteOnceWrong : ChangeSpec := { name := "rewriteOnce", fn := fun _ => fun
  | [d] => { results := [.lit (.bool false)], args := [d] }
  | _ => none }
def RewriteOnceWrongFalsely : Prop := rewriteOnceRow.holds Tryz.pinned (OpenSpec.ofChange rewriteOnceWrong)

/-- 'ramblelaw20.RewriteKinds': WHATEVER THE INPUT: true; the input reads as it did. -/
def rewriteKindsSpec : ChangeSpec := { name := "rewriteKinds", fn := fun _ => fun
  | [d1, d2] => { results := [.lit (.bool true)], args := [d1, d2] }
  | _ => none }
def rewriteKindsRow : OpenClaim := { program := "ytnedeokclnbcpaagreatdoor", sum := "07695222051bcef58ee4d9758a9e9c6ac7d43d8631f18bb58ea487a53d406b78", func := "ramble/ramblelaw20.RewriteKinds", spec := "rewriteKinds", inPlace := ["internal/bytealg.CountString", "internal/bytealg.IndexByteString", "internal/bytealg.IndexString", "internal/bytealg.abigen_runtime_cmpstring"], unfollowed := true, recurses := true, named := ["unicode/utf8.first", "unicode/utf8.acceptRanges", "internal/bytealg.MaxLen"], loops := true, apart := false, laid := [("unicode/utf8.acceptRanges", laid_unicode_utf8_acceptRanges), ("unicode/utf8.first", laid_unicode_utf8_first)] }
def RewriteKindsSaid : Prop := rewriteKindsRow.holds Tryz.pinned (OpenSpec.ofChange rewriteKindsSpec)

/-- ITS FALSE NEIGHBOUR: 'it returns false'. Refute it at one input. -/
def rewriteKindsWrong : ChangeSpec := { name := "rewriteKinds", fn := fun _ => fun
  | [d1, d2] => { results := [.lit (.bool false)], args := [d1, d2] }
  | _ => none }
def RewriteKindsWrongFalsely : Prop := rewriteKindsRow.holds Tryz.pinned (OpenSpec.ofChange rewriteKindsWrong)

/-- 'ramblelaw20.RewriteTrim': WHATEVER THE INPUT: true; the input reads as it did. -/
def rewriteTrimSpec : ChangeSpec := { name := "rewriteTrim", fn := fun _ => fun
  | [d1, d2, d3] => { results := [.lit (.bool true)], args := [d1, d2, d3] }
  | _ => none }
def rewriteTrimRow : OpenClaim := { program := "ytnedeokclnbcpaagreatdoor", sum := "07695222051bcef58ee4d9758a9e9c6ac7d43d8631f18bb58ea487a53d406b78", func := "ramble/ramblelaw20.RewriteTrim", spec := "rewriteTrim", inPlace := ["internal/bytealg.CountString", "internal/bytealg.IndexByteString", "internal/bytealg.IndexString", "internal/bytealg.abigen_runtime_cmpstring"], unfollowed := true, recurses := true, named := ["unicode/utf8.first", "unicode/utf8.acceptRanges", "internal/bytealg.MaxLen"], loops := true, apart := false, laid := [("unicode/utf8.acceptRanges", laid_unicode_utf8_acceptRanges), ("unicode/utf8.first", laid_unicode_utf8_first)] }
def RewriteTrimSaid : Prop := rewriteTrimRow.holds Tryz.pinned (OpenSpec.ofChange rewriteTrimSpec)

/-- ITS FALSE NEIGHBOUR: 'it returns false'. Refute it at one input. -/
def rewriteTrimWrong : ChangeSpec := { name := "rewriteTrim", fn := fun _ => fun
  | [d1, d2, d3] => { results := [.lit (.bool false)], args := [d1, d2, d3] }
  | _ => none }
def RewriteTrimWrongFalsely : Prop := rewriteTrimRow.holds Tryz.pinned (OpenSpec.ofChange rewriteTrimWrong)

/-- 'ramblelaw20.RewriteSimple': WHATEVER THE INPUT: true; the input reads as it did. -/
def rewriteSimpleSpec : ChangeSpec := { name := "rewriteSimple", fn := fun _ => fun
  | [d1, d2, d3] => { results := [.lit (.bool true)], args := [d1, d2, d3] }
  | _ => none }
def rewriteSimpleRow : OpenClaim := { program := "ytnedeokclnbcpaagreatdoor", sum := "07695222051bcef58ee4d9758a9e9c6ac7d43d8631f18bb58ea487a53d406b78", func := "ramble/ramblelaw20.RewriteSimple", spec := "rewriteSimple", inPlace := ["internal/bytealg.CountString", "internal/bytealg.IndexByteString", "internal/bytealg.IndexString", "internal/bytealg.abigen_runtime_cmpstring"], unfollowed := true, recurses := true, named := ["unicode/utf8.first", "unicode/utf8.acceptRanges", "internal/bytealg.MaxLen"], loops := true, apart := false, laid := [("unicode/utf8.acceptRanges", laid_unicode_utf8_acceptRanges), ("unicode/utf8.first", laid_unicode_utf8_first)] }
def RewriteSimpleSaid : Prop := rewriteSimpleRow.holds Tryz.pinned (OpenSpec.ofChange rewriteSimpleSpec)

/-- ITS FALSE NEIGHBOUR: 'it returns false'. Refute it at one input. -/
def rewriteSimpleWrong : ChangeSpec := { name := "rewriteSimple", fn := fun _ => fun
  | [d1, d2, d3] => { results := [.lit (.bool false)], args := [d1, d2, d3] }
  | _ => none }
def RewriteSimpleWrongFalsely : Prop := rewriteSimpleRow.holds Tryz.pinned (OpenSpec.ofChange rewriteSimpleWrong)

/-- 'ramblelaw20.RewriteRules': WHATEVER THE INPUT: true; the input reads as it did. -/
def rewriteRulesSpec : ChangeSpec := { name := "rewriteRules", fn := fun _ => fun
  | [d1, d2, d3] => { results := [.lit (.bool true)], args := [d1, d2, d3] }
  | _ => none }
def rewriteRulesRow : OpenClaim := { program := "ytnedeokclnbcpaagreatdoor", sum := "07695222051bcef58ee4d9758a9e9c6ac7d43d8631f18bb58ea487a53d406b78", func := "ramble/ramblelaw20.RewriteRules", spec := "rewriteRules", inPlace := ["internal/bytealg.CountString", "internal/bytealg.IndexByteString", "internal/bytealg.IndexString", "internal/bytealg.abigen_runtime_cmpstring"], unfollowed := true, recurses := true, named := ["unicode/utf8.first", "unicode/utf8.acceptRanges", "internal/bytealg.MaxLen"], loops := true, apart := false, laid := [("unicode/utf8.acceptRanges", laid_unicode_utf8_acceptRanges), ("unicode/utf8.first", laid_unicode_utf8_first)] }
def RewriteRulesSaid : Prop := rewriteRulesRow.holds Tryz.pinned (OpenSpec.ofChange rewriteRulesSpec)

/-- ITS FALSE NEIGHBOUR: 'it returns false'. Refute it at one input. -/
def rewriteRulesWrong : ChangeSpec := { name := "rewriteRules", fn := fun _ => fun
  | [d1, d2, d3] => { results := [.lit (.bool false)], args := [d1, d2, d3] }
  | _ => none }
def RewriteRulesWrongFalsely : Prop := rewriteRulesRow.holds Tryz.pinned (OpenSpec.ofChange rewriteRulesWrong)

/- THE SECOND FORM. 'bulk': how many values and letters a reading holds, each counted each time it is reached (what is shared counts as often as it is met; a slice's spare places count too). A statement '..UptoSaid' is the law's where the arguments, and the package variables that the reading takes, are together of bulk at most 1048576: NARROWER than '..Said'. Prove '..Said' where nothing that the law and all that it calls make is longer than what came in: it says more and counts as full. Else prove '..UptoSaid'. A law counts once. -/
mutual
def uptoBulk {H : Type} : DataW H → Nat
  | .lit (.string bytes) => bytes.length + 1
  | .lit _ => 1
  | .nil => 1
  | .ptr d => uptoBulk d + 1
  | .slice elems spare => uptoBulkAll elems + uptoBulkAll spare + 1
  | .agg parts => uptoBulkAll parts + 1
  | .iface _ d => uptoBulk d + 1
  | .map entries => uptoBulkEntries entries + 1
  | .held _ => 1
def uptoBulkAll {H : Type} : List (DataW H) → Nat
  | [] => 0
  | d :: r => uptoBulk d + uptoBulkAll r
def uptoBulkEntries {H : Type} : List (Lit × DataW H) → Nat
  | [] => 0
  | x :: r => uptoBulkEntry x + uptoBulkEntries r
def uptoBulkEntry {H : Type} : Lit × DataW H → Nat
  | (.string bytes, d) => bytes.length + uptoBulk d + 1
  | (_, d) => uptoBulk d + 1
 end
def uptoSmall : (H : Type) → List (DataW H) → Bool := fun _ ds => decide (uptoBulkAll ds ≤ 1048576)
def OpenSpec.upto (s : _root_.Go.ChangeSpec) : _root_.Go.OpenSpec := { _root_.Go.OpenSpec.ofChange s with cond := some uptoSmall }

/-- 'ramblelaw20.RewriteIs', WHERE WHAT IT READS IS OF BULK AT MOST 1048576: true; the input reads as it did. -/
def rewriteIsUptoRow : OpenClaim := { program := "ytnedeokclnbcpaagreatdoor", sum := "07695222051bcef58ee4d9758a9e9c6ac7d43d8631f18bb58ea487a53d406b78", func := "ramble/ramblelaw20.RewriteIs", spec := "rewriteIs", inPlace := ["internal/bytealg.CountString", "internal/bytealg.IndexByteString", "internal/bytealg.IndexString", "internal/bytealg.abigen_runtime_cmpstring"], unfollowed := true, recurses := true, named := ["unicode/utf8.first", "unicode/utf8.acceptRanges", "internal/bytealg.MaxLen"], loops := true, apart := false, laid := [("unicode/utf8.acceptRanges", laid_unicode_utf8_acceptRanges), ("unicode/utf8.first", laid_unicode_utf8_first)], narrowed := true }
def RewriteIsUptoSaid : Prop := rewriteIsUptoRow.holds Tryz.pinned (OpenSpec.upto rewriteIsSpec)

/-- 'ramblelaw20.RewriteSame', WHERE WHAT IT READS IS OF BULK AT MOST 1048576: true; the input reads as it did. -/
def rewriteSameUptoRow : OpenClaim := { program := "ytnedeokclnbcpaagreatdoor", sum := "07695222051bcef58ee4d9758a9e9c6ac7d43d8631f18bb58ea487a53d406b78", func := "ramble/ramblelaw20.RewriteSame", spec := "rewriteSame", inPlace := ["internal/bytealg.CountString", "internal/bytealg.IndexByteString", "internal/bytealg.IndexString", "internal/bytealg.abigen_runtime_cmpstring"], unfollowed := true, recurses := true, named := ["unicode/utf8.first", "unicode/utf8.acceptRanges", "internal/bytealg.MaxLen"], loops := true, apart := false, laid := [("unicode/utf8.acceptRanges", laid_unicode_utf8_acceptRanges), ("unicode/utf8.first", laid_unicode_utf8_first)], narrowed := true }
def RewriteSameUptoSaid : Prop := rewriteSameUptoRow.holds Tryz.pinned (OpenSpec.upto rewriteSameSpec)

/-- 'ramblelaw20.RewriteOnce', WHERE WHAT IT READS IS OF BULK AT MOST 1048576: true; the input reads as it did. -/
def rewriteOnceUptoRow : OpenClaim := { program := "ytnedeokclnbcpaagreatdoor", sum := "07695222051bcef58ee4d9758a9e9c6ac7d43d8631f18bb58ea487a53d406b78", func := "ramble/ramblelaw20.RewriteOnce", spec := "rewriteOnce", inPlace := ["internal/bytealg.CountString", "internal/bytealg.IndexByteString", "internal/bytealg.IndexString", "internal/bytealg.abigen_runtime_cmpstring"], unfollowed := true, recurses := true, named := ["unicode/utf8.first", "unicode/utf8.acceptRanges", "internal/bytealg.MaxLen"], loops := true, apart := false, laid := [("unicode/utf8.acceptRanges", laid_unicode_utf8_acceptRanges), ("unicode/utf8.first", laid_unicode_utf8_first)], narrowed := true }
def RewriteOnceUptoSaid : Prop := rewriteOnceUptoRow.holds Tryz.pinned (OpenSpec.upto rewriteOnceSpec)

/-- 'ramblelaw20.RewriteKinds', WHERE WHAT IT READS IS OF BULK AT MOST 1048576: true; the input reads as it did. -/
def rewriteKindsUptoRow : OpenClaim := { program := "ytnedeokclnbcpaagreatdoor", sum := "07695222051bcef58ee4d9758a9e9c6ac7d43d8631f18bb58ea487a53d406b78", func := "ramble/ramblelaw20.RewriteKinds", spec := "rewriteKinds", inPlace := ["internal/bytealg.CountString", "internal/bytealg.IndexByteString", "internal/bytealg.IndexString", "internal/bytealg.abigen_runtime_cmpstring"], unfollowed := true, recurses := true, named := ["unicode/utf8.first", "unicode/utf8.acceptRanges", "internal/bytealg.MaxLen"], loops := true, apart := false, laid := [("unicode/utf8.acceptRanges", laid_unicode_utf8_acceptRanges), ("unicode/utf8.first", laid_unicode_utf8_first)], narrowed := true }
def RewriteKindsUptoSaid : Prop := rewriteKindsUptoRow.holds Tryz.pinned (OpenSpec.upto rewriteKindsSpec)

/-- 'ramblelaw20.RewriteTrim', WHERE WHAT IT READS IS OF BULK AT MOST 1048576: true; the input reads as it did. -/
def rewriteTrimUptoRow : OpenClaim := { program := "ytnedeokclnbcpaagreatdoor", sum := "07695222051bcef58ee4d9758a9e9c6ac7d43d8631f18bb58ea487a53d406b78", func := "ramble/ramblelaw20.RewriteTrim", spec := "rewriteTrim", inPlace := ["internal/bytealg.CountString", "internal/bytealg.IndexByteString", "internal/bytealg.IndexString", "internal/bytealg.abigen_runtime_cmpstring"], unfollowed := true, recurses := true, named := ["unicode/utf8.first", "unicode/utf8.acceptRanges", "internal/bytealg.MaxLen"], loops := true, apart := false, laid := [("unicode/utf8.acceptRanges", laid_unicode_utf8_acceptRanges), ("unicode/utf8.first", laid_unicode_utf8_first)], narrowed := true }
def RewriteTrimUptoSaid : Prop := rewriteTrimUptoRow.holds Tryz.pinned (OpenSpec.upto rewriteTrimSpec)

/-- 'ramblelaw20.RewriteSimple', WHERE WHAT IT READS IS OF BULK AT MOST 1048576: true; the input reads as it did. -/
def rewriteSimpleUptoRow : OpenClaim := { program := "ytnedeokclnbcpaagreatdoor", sum := "07695222051bcef58ee4d9758a9e9c6ac7d43d8631f18bb58ea487a53d406b78", func := "ramble/ramblelaw20.RewriteSimple", spec := "rewriteSimple", inPlace := ["internal/bytealg.CountString", "internal/bytealg.IndexByteString", "internal/bytealg.IndexString", "internal/bytealg.abigen_runtime_cmpstring"], unfollowed := true, recurses := true, named := ["unicode/utf8.first", "unicode/utf8.acceptRanges", "internal/bytealg.MaxLen"], loops := true, apart := false, laid := [("unicode/utf8.acceptRanges", laid_unicode_utf8_acceptRanges), ("unicode/utf8.first", laid_unicode_utf8_first)], narrowed := true }
def RewriteSimpleUptoSaid : Prop := rewriteSimpleUptoRow.holds Tryz.pinned (OpenSpec.upto rewriteSimpleSpec)

/-- 'ramblelaw20.RewriteRules', WHERE WHAT IT READS IS OF BULK AT MOST 1048576: true; the input reads as it did. -/
def rewriteRulesUptoRow : OpenClaim := { program := "ytnedeokclnbcpaagreatdoor", sum := "07695222051bcef58ee4d9758a9e9c6ac7d43d8631f18bb58ea487a53d406b78", func := "ramble/ramblelaw20.RewriteRules", spec := "rewriteRules", inPlace := ["internal/bytealg.CountString", "internal/bytealg.IndexByteString", "internal/bytealg.IndexString", "internal/bytealg.abigen_runtime_cmpstring"], unfollowed := true, recurses := true, named := ["unicode/utf8.first", "unicode/utf8.acceptRanges", "internal/bytealg.MaxLen"], loops := true, apart := false, laid := [("unicode/utf8.acceptRanges", laid_unicode_utf8_acceptRanges), ("unicode/utf8.first", laid_unicode_utf8_first)], narrowed := true }
def RewriteRulesUptoSaid : Prop := rewriteRulesUptoRow.holds Tryz.pinned (OpenSpec.upto rewriteRulesSpec)

end Rows
end Go.Proofs.YtnedeokclnbcpaaGreatDoor

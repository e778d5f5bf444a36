/-
  NARROWER THAN 'FOR EVERY INPUT', by the rows' own cells (each row's printed sentence says how): TreeautMatches: laid · TreeautUnionMatches: laid · TreeautExamples: laid · TreeautUnites: laid · TreeautGrows: laid · TreeautReaches: laid · TreeautTrims: laid · TreeautJoins: laid · TreeautMirrors: laid.
  DERIVED. THE GIVEN ROWS OF THIS SEAT. 9 by the template 'for every input the law returns true; each argument reads behind the call as it read before'; 0 by the template 'total and deterministic' (their statements: YtijmhicopfphnaaDoorTotals.lean).
  GIVEN WITH THE SEED: the statements are not yours to turn. If you find one false, say at which input.
  Laid BY PROGRAM, IN A SANDBOX (cutbox-rows.mjs): the forced cells as the released guide's own fill.sh prints them over the translation 9872bb8a61f5941e… (all of the seat's roots in one cut). By AI agents, Wed Nov 11 2026. No macro, syntax, notation, axiom, sorry.
-/
import Derived.Test.YtijmhicopfphnaaDoorChecked
import GoSem.PinnedTables
import GoSem.Claim
import GoSem.ClaimJoined
import GoSem.ClaimMapViews
import Derived.JoinedTies
import Derived.KernelRfl
namespace Go.Proofs.YtijmhicopfphnaaDoor
/- THE CELL 'sum', in the pinned program and in every row, IS THE sha256 OF THE DUMP (.gsa) THAT YtijmhicopfphnaaDoorProg.lean LOADS. Nothing in Lean hashes anything: it is a label: what it is worth is what the hold of that sum in a sandbox is worth. -/
noncomputable def Tryd.pinned : Pinned := { name := "ytijmhicopfphnaadoor", sum := "9872bb8a61f5941e4f2adf1ac33befa04bf50c3b5fd9ff1d34a77406d4c6afd3", checked := Tryd.checked }
namespace Rows
def none {H : Type} : Left H := { results := [], args := [] }

/- WHAT THE LISTED PACKAGE-LEVEL VARIABLES READ AS WHEN THE CALL BEGINS. Each datum BY PROGRAM (the guide's laid-datum.mjs) off the statement by which the dump's own 'gosem.cut.vars' lays the variable. In a bare row this is a premise. The card (YtijmhicopfphnaaDoorCards.lean) ties it to the program's text. -/
def laid_unicode_utf8_acceptRanges {H : Type} : DataW H := .agg [.agg [.lit (.int .u8 128), .lit (.int .u8 191)], .agg [.lit (.int .u8 160), .lit (.int .u8 191)], .agg [.lit (.int .u8 128), .lit (.int .u8 159)], .agg [.lit (.int .u8 144), .lit (.int .u8 191)], .agg [.lit (.int .u8 128), .lit (.int .u8 143)], .agg [.lit (.int .u8 0), .lit (.int .u8 0)], .agg [.lit (.int .u8 0), .lit (.int .u8 0)], .agg [.lit (.int .u8 0), .lit (.int .u8 0)], .agg [.lit (.int .u8 0), .lit (.int .u8 0)], .agg [.lit (.int .u8 0), .lit (.int .u8 0)], .agg [.lit (.int .u8 0), .lit (.int .u8 0)], .agg [.lit (.int .u8 0), .lit (.int .u8 0)], .agg [.lit (.int .u8 0), .lit (.int .u8 0)], .agg [.lit (.int .u8 0), .lit (.int .u8 0)], .agg [.lit (.int .u8 0), .lit (.int .u8 0)], .agg [.lit (.int .u8 0), .lit (.int .u8 0)]]
/-- One of Go's own tables, pinned by name: the form's constant. -/
def laid_unicode_utf8_first : DataW Unit := Go.Pinned.utf8First

/-- 'sentinellaw18.TreeautMatches': WHATEVER THE INPUT: true; the input reads as it did. -/
def treeautMatchesSpec : ChangeSpec := { name := "treeautMatches", fn := fun _ => fun
  | [d1, d2] => { results := [.lit (.bool true)], args := [d1, d2] }
  | _ => none }
def treeautMatchesRow : OpenClaim := { program := "ytijmhicopfphnaadoor", sum := "9872bb8a61f5941e4f2adf1ac33befa04bf50c3b5fd9ff1d34a77406d4c6afd3", func := "sentinel/sentinellaw18.TreeautMatches", spec := "treeautMatches", inPlace := ["internal/bytealg.IndexByteString", "internal/bytealg.IndexString"], unfollowed := true, recurses := true, named := ["unicode/utf8.first", "unicode/utf8.acceptRanges", "internal/bytealg.MaxLen"], apart := false, laid := [("unicode/utf8.acceptRanges", laid_unicode_utf8_acceptRanges), ("unicode/utf8.first", laid_unicode_utf8_first)] }
def TreeautMatchesSaid : Prop := treeautMatchesRow.holds Tryd.pinned (OpenSpec.ofChange treeautMatchesSpec)

/-- ITS FALSE NEIGHBOUR: 'it returns false'. Refute it at one input. -/
def treeautMatchesWrong : ChangeSpec := { name := "treeautMatches", fn := fun _ => fun
  | [d1, d2] => { results := [.lit (.bool false)], args := [d1, d2] }
  | _ => none }
def TreeautMatchesWrongFalsely : Prop := treeautMatchesRow.holds Tryd.pinned (OpenSpec.ofChange treeautMatchesWrong)

/-- 'sentinellaw18.TreeautUnionMatches': WHATEVER THE INPUT: true; the input reads as it did. -/
def treeautUnionMatchesSpec : ChangeSpec := { name := "treeautUnionMatches", fn := fun _ => fun
  | [d1, d2] => { results := [.lit (.bool true)], args := [d1, d2] }
  | _ => none }
def treeautUnionMatchesRow : OpenClaim := { program := "ytijmhicopfphnaadoor", sum := "9872bb8a61f5941e4f2adf1ac33befa04bf50c3b5fd9ff1d34a77406d4c6afd3", func := "sentinel/sentinellaw18.TreeautUnionMatches", spec := "treeautUnionMatches", inPlace := ["internal/bytealg.IndexByteString", "internal/bytealg.IndexString"], unfollowed := true, recurses := true, named := ["unicode/utf8.first", "unicode/utf8.acceptRanges", "internal/bytealg.MaxLen"], apart := false, laid := [("unicode/utf8.acceptRanges", laid_unicode_utf8_acceptRanges), ("unicode/utf8.first", laid_unicode_utf8_first)] }
def TreeautUnionMatchesSaid : Prop := treeautUnionMatchesRow.holds Tryd.pinned (OpenSpec.ofChange treeautUnionMatchesSpec)

/-- ITS FALSE NEIGHBOUR: 'it returns false'. Refute it at one input. -/
def treeautUnionMatchesWrong : ChangeSpec := { name := "treeautUnionMatches", fn := fun _ => fun
  | [d1, d2] => { results := [.lit (.bool false)], args := [d1, d2] }
  | _ => none }
def TreeautUnionMatchesWrongFalsely : Prop := treeautUnionMatchesRow.holds Tryd.pinned (OpenSpec.ofChange treeautUnionMatchesWrong)

/-- 'sentinellaw18.TreeautExamples': WHATEVER THE INPUT: true; the input reads as it did. -/
def treeautExamplesSpec : ChangeSpec := { name := "treeautExamples", fn := fun _ => fun
  | [] => { results := [.lit (.bool true)], args := [] }
  | _ => none }
def treeautExamplesRow : OpenClaim := { program := "ytijmhicopfphnaadoor", sum := "9872bb8a61f5941e4f2adf1ac33befa04bf50c3b5fd9ff1d34a77406d4c6afd3", func := "sentinel/sentinellaw18.TreeautExamples", spec := "treeautExamples", inPlace := ["internal/bytealg.IndexByteString", "internal/bytealg.IndexString"], unfollowed := true, recurses := true, named := ["unicode/utf8.first", "unicode/utf8.acceptRanges", "internal/bytealg.MaxLen"], apart := false, laid := [("unicode/utf8.acceptRanges", laid_unicode_utf8_acceptRanges), ("unicode/utf8.first", laid_unicode_utf8_first)] }
def TreeautExamplesSaid : Prop := treeautExamplesRow.holds Tryd.pinned (OpenSpec.ofChange treeautExamplesSpec)

/-- ITS FALSE NEIGHBOUR: 'it returns false'. Refute it at one input. -/
def treeautExamplesWrong : ChangeSpec := { name := "treeautExamples", fn := fun _ => fun
  | [] => { results := [.lit (.bool false)], args := [] }
  | _ => none }
def TreeautExamplesWrongFalsely : Prop := treeautExamplesRow.holds Tryd.pinned (OpenSpec.ofChange treeautExamplesWrong)

/-- 'sentinellaw18.TreeautUnites': WHATEVER THE INPUT: true; the input reads as it did. -/
def treeautUnitesSpec : ChangeSpec := { name := "treeautUnites", fn := fun _ => fun
  | [d1, d2, d3] => { results := [.lit (.bool true)], args := [d1, d2, d3] }
  | _ => none }
def treeautUnitesRow : OpenClaim := { program := "ytijmhicopfphnaadoor", sum := "9872bb8a61f5941e4f2adf1ac33befa04bf50c3b5fd9ff1d34a77406d4c6afd3", func := "sentinel/sentinellaw18.TreeautUnites", spec := "treeautUnites", inPlace := ["internal/bytealg.IndexByteString", "internal/bytealg.IndexString"], unfollowed := true, recurses := true, named := ["unicode/utf8.first", "unicode/utf8.acceptRanges", "internal/bytealg.MaxLen"], apart := false, laid := [("unicode/utf8.acceptRanges", laid_unicode_utf8_acceptRanges), ("unicode/utf8.first", laid_unicode_utf8_first)] }
def TreeautUnitesSaid : Prop := treeautUnitesRow.holds Tryd.pinned (OpenSpec.ofChange treeautUnitesSpec)

/-- ITS FALSE NEIGHBOUR: 'it returns false'. Refute it at one input. -/
def treeautUnitesWrong : ChangeSpec := { name := "treeautUnites", fn := fun _ => fun
  | [d1, d2, d3] => { results := [.lit (.bool false)], args := [d1, d2, d3] }
  | _ => none }
def TreeautUnitesWrongFalsely : Prop := treeautUnitesRow.holds Tryd.pinned (OpenSpec.ofChange treeautUnitesWrong)

/-- 'sentinellaw18.TreeautGrows': WHATEVER THE INPUT: true; the input reads as it did. -/
def treeautGrowsSpec : ChangeSpec := { name := "treeautGrows", fn := fun _ => fun
  | [d1, d2, d3] => { results := [.lit (.bool true)], args := [d1, d2, d3] }
  | _ => none }
def treeautGrowsRow : OpenClaim := { program := "ytijmhicopfphnaadoor", sum := "9872bb8a61f5941e4f2adf1ac33befa04bf50c3b5fd9ff1d34a77406d4c6afd3", func := "sentinel/sentinellaw18.TreeautGrows", spec := "treeautGrows", inPlace := ["internal/bytealg.IndexByteString", "internal/bytealg.IndexString"], unfollowed := true, recurses := true, named := ["unicode/utf8.first", "unicode/utf8.acceptRanges", "internal/bytealg.MaxLen"], apart := false, laid := [("unicode/utf8.acceptRanges", laid_unicode_utf8_acceptRanges), ("unicode/utf8.first", laid_unicode_utf8_first)] }
def TreeautGrowsSaid : Prop := treeautGrowsRow.holds Tryd.pinned (OpenSpec.ofChange treeautGrowsSpec)

/-- ITS FALSE NEIGHBOUR: 'it returns false'. Refute it at one input. -/
def treeautGrowsWrong : ChangeSpec := { name := "treeautGrows", fn := fun _ => fun
  | [d1, d2, d3] => { results := [.lit (.bool false)], args := [d1, d2, d3] }
  | _ => none }
def TreeautGrowsWrongFalsely : Prop := treeautGrowsRow.holds Tryd.pinned (OpenSpec.ofChange treeautGrowsWrong)

/-- 'sentinellaw18.TreeautReaches': WHATEVER THE INPUT: true; the input reads as it did. -/
def treeautReachesSpec : ChangeSpec := { name := "treeautReaches", fn := fun _ => fun
  | [d1, d2] => { results := [.lit (.bool true)], args := [d1, d2] }
  | _ => none }
def treeautReachesRow : OpenClaim := { program := "ytijmhicopfphnaadoor", sum := "9872bb8a61f5941e4f2adf1ac33befa04bf50c3b5fd9ff1d34a77406d4c6afd3", func := "sentinel/sentinellaw18.TreeautReaches", spec := "treeautReaches", inPlace := ["internal/bytealg.IndexByteString", "internal/bytealg.IndexString"], unfollowed := true, recurses := true, named := ["unicode/utf8.first", "unicode/utf8.acceptRanges", "internal/bytealg.MaxLen"], apart := false, laid := [("unicode/utf8.acceptRanges", laid_unicode_utf8_acceptRanges), ("unicode/utf8.first", laid_unicode_utf8_first)] }
def TreeautReachesSaid : Prop := treeautReachesRow.holds Tryd.pinned (OpenSpec.ofChange treeautReachesSpec)

/-- ITS FALSE NEIGHBOUR: 'it returns false'. Refute it at one input. -/
def treeautReachesWrong : ChangeSpec := { name := "treeautReaches", fn := fun _ => fun
  | [d1, d2] => { results := [.lit (.bool false)], args := [d1, d2] }
  | _ => none }
def TreeautReachesWrongFalsely : Prop := treeautReachesRow.holds Tryd.pinned (OpenSpec.ofChange treeautReachesWrong)

/-- 'sentinellaw18.TreeautTrims': WHATEVER THE INPUT: true; the input reads as it did. -/
def treeautTrimsSpec : ChangeSpec := { name := "treeautTrims", fn := fun _ => fun
  | [d1, d2] => { results := [.lit (.bool true)], args := [d1, d2] }
  | _ => none }
def treeautTrimsRow : OpenClaim := { program := "ytijmhicopfphnaadoor", sum := "9872bb8a61f5941e4f2adf1ac33befa04bf50c3b5fd9ff1d34a77406d4c6afd3", func := "sentinel/sentinellaw18.TreeautTrims", spec := "treeautTrims", inPlace := ["internal/bytealg.IndexByteString", "internal/bytealg.IndexString"], unfollowed := true, recurses := true, named := ["unicode/utf8.first", "unicode/utf8.acceptRanges", "internal/bytealg.MaxLen"], apart := false, laid := [("unicode/utf8.acceptRanges", laid_unicode_utf8_acceptRanges), ("unicode/utf8.first", laid_unicode_utf8_first)] }
def TreeautTrimsSaid : Prop := treeautTrimsRow.holds Tryd.pinned (OpenSpec.ofChange treeautTrimsSpec)

/-- ITS FALSE NEIGHBOUR: 'it returns false'. Refute it at one input. -/
def treeautTrimsWrong : ChangeSpec := { name := "treeautTrims", fn := fun _ => fun
  | [d1, d2] => { results := [.lit (.bool false)], args := [d1, d2] }
  | _ => none }
def TreeautTrimsWrongFalsely : Prop := treeautTrimsRow.holds Tryd.pinned (OpenSpec.ofChange treeautTrimsWrong)

/-- 'sentinellaw18.TreeautJoins': WHATEVER THE INPUT: true; the input reads as it did. -/
def treeautJoinsSpec : ChangeSpec := { name := "treeautJoins", fn := fun _ => fun
  | [d1, d2, d3] => { results := [.lit (.bool true)], args := [d1, d2, d3] }
  | _ => none }
def treeautJoinsRow : OpenClaim := { program := "ytijmhicopfphnaadoor", sum := "9872bb8a61f5941e4f2adf1ac33befa04bf50c3b5fd9ff1d34a77406d4c6afd3", func := "sentinel/sentinellaw18.TreeautJoins", spec := "treeautJoins", inPlace := ["internal/bytealg.IndexByteString", "internal/bytealg.IndexString"], unfollowed := true, recurses := true, named := ["unicode/utf8.first", "unicode/utf8.acceptRanges", "internal/bytealg.MaxLen"], apart := false, laid := [("unicode/utf8.acceptRanges", laid_unicode_utf8_acceptRanges), ("unicode/utf8.first", laid_unicode_utf8_first)] }
def TreeautJoinsSaid : Prop := treeautJoinsRow.holds Tryd.pinned (OpenSpec.ofChange treeautJoinsSpec)

/-- ITS FALSE NEIGHBOUR: 'it returns false'. Refute it at one input. -/
def treeautJoinsWrong : ChangeSpec := { name := "treeautJoins", fn := fun _ => fun
  | [d1, d2, d3] => { results := [.lit (.bool false)], args := [d1, d2, d3] }
  | _ => none }
def TreeautJoinsWrongFalsely : Prop := treeautJoinsRow.holds Tryd.pinned (OpenSpec.ofChange treeautJoinsWrong)

/-- 'sentinellaw18.TreeautMirrors': WHATEVER THE INPUT: true; the input reads as it did. -/
def treeautMirrorsSpec : ChangeSpec := { name := "treeautMirrors", fn := fun _ => fun
  | [d1, d2] => { results := [.lit (.bool true)], args := [d1, d2] }
  | _ => none }
def treeautMirrorsRow : OpenClaim := { program := "ytijmhicopfphnaadoor", sum := "9872bb8a61f5941e4f2adf1ac33befa04bf50c3b5fd9ff1d34a77406d4c6afd3", func := "sentinel/sentinellaw18.TreeautMirrors", spec := "treeautMirrors", inPlace := ["internal/bytealg.IndexByteString", "internal/bytealg.IndexString"], unfollowed := true, recurses := true, named := ["unicode/utf8.first", "unicode/utf8.acceptRanges", "internal/bytealg.MaxLen"], apart := false, laid := [("unicode/utf8.acceptRanges", laid_unicode_utf8_acceptRanges), ("unicode/utf8.first", laid_unicode_utf8_first)] }
def TreeautMirrorsSaid : Prop := treeautMirrorsRow.holds Tryd.pinned (OpenSpec.ofChange treeautMirrorsSpec)

/-- ITS FALSE NEIGHBOUR: 'it returns false'. Refute it at one input. -/
def treeautMirrorsWrong : ChangeSpec := { name := "treeautMirrors", fn := fun _ => fun
  | [d1, d2] => { results := [.lit (.bool false)], args := [d1, d2] }
  | _ => none }
def TreeautMirrorsWrongFalsely : Prop := treeautMirrorsRow.holds Tryd.pinned (OpenSpec.ofChange treeautMirrorsWrong)

/- THE SECOND FORM. 'bulk': how many values and letters a reading holds, each counted each time it is reached (what is shared counts as often as it is met; a slice's spare places count too). A statement '..UptoSaid' is the law's where the arguments, and the package variables that the reading takes, are together of bulk at most 1048576: NARROWER than '..Said'. Prove '..Said' where nothing that the law and all that it calls make is longer than what came in: it says more and counts as full. Else prove '..UptoSaid'. A law counts once. -/
mutual
def uptoBulk {H : Type} : DataW H → Nat
  | .lit (.string bytes) => bytes.length + 1
  | .lit _ => 1
  | .nil => 1
  | .ptr d => uptoBulk d + 1
  | .slice elems spare => uptoBulkAll elems + uptoBulkAll spare + 1
  | .agg parts => uptoBulkAll parts + 1
  | .iface _ d => uptoBulk d + 1
  | .map entries => uptoBulkEntries entries + 1
  | .held _ => 1
def uptoBulkAll {H : Type} : List (DataW H) → Nat
  | [] => 0
  | d :: r => uptoBulk d + uptoBulkAll r
def uptoBulkEntries {H : Type} : List (Lit × DataW H) → Nat
  | [] => 0
  | x :: r => uptoBulkEntry x + uptoBulkEntries r
def uptoBulkEntry {H : Type} : Lit × DataW H → Nat
  | (.string bytes, d) => bytes.length + uptoBulk d + 1
  | (_, d) => uptoBulk d + 1
 end
def uptoSmall : (H : Type) → List (DataW H) → Bool := fun _ ds => decide (uptoBulkAll ds ≤ 1048576)
def OpenSpec.upto (s : _root_.Go.ChangeSpec) : _root_.Go.OpenSpec := { _root_.Go.OpenSpec.ofChange s with cond := some uptoSmall }

/-- 'sentinellaw18.TreeautMatches', WHERE WHAT IT READS IS OF BULK AT MOST 1048576: true; the input reads as it did. -/
def treeautMatchesUptoRow : OpenClaim := { program := "ytijmhicopfphnaadoor", sum := "9872bb8a61f5941e4f2adf1ac33befa04bf50c3b5fd9ff1d34a77406d4c6afd3", func := "sentinel/sentinellaw18.TreeautMatches", spec := "treeautMatches", inPlace := ["internal/bytealg.IndexByteString", "internal/bytealg.IndexString"], unfollowed := true, recurses := true, named := ["unicode/utf8.first", "unicode/utf8.acceptRanges", "internal/bytealg.MaxLen"], apart := false, laid := [("unicode/utf8.acceptRanges", laid_unicode_utf8_acceptRanges), ("unicode/utf8.first", laid_unicode_utf8_first)], narrowed := true }
def TreeautMatchesUptoSaid : Prop := treeautMatchesUptoRow.holds Tryd.pinned (OpenSpec.upto treeautMatchesSpec)

/-- 'sentinellaw18.TreeautUnionMatches', WHERE WHAT IT READS IS OF BULK AT MOST 1048576: true; the input reads as it did. -/
def treeautUnionMatchesUptoRow : OpenClaim := { program := "ytijmhicopfphnaadoor", sum := "9872bb8a61f5941e4f2adf1ac33befa04bf50c3b5fd9ff1d34a77406d4c6afd3", func := "sentinel/sentinellaw18.TreeautUnionMatches", spec := "treeautUnionMatches", inPlace := ["internal/bytealg.IndexByteString", "internal/bytealg.IndexString"], unfollowed := true, recurses := true, named := ["unicode/utf8.first", "unicode/utf8.acceptRanges", "internal/bytealg.MaxLen"], apart := false, laid := [("unicode/utf8.acceptRanges", laid_unicode_utf8_acceptRanges), ("unicode/utf8.first", laid_unicode_utf8_first)], narrowed := true }
def TreeautUnionMatchesUptoSaid : Prop := treeautUnionMatchesUptoRow.holds Tryd.pinned (OpenSpec.upto treeautUnionMatchesSpec)

/-- 'sentinellaw18.TreeautExamples', WHERE WHAT IT READS IS OF BULK AT MOST 1048576: true; the input reads as it did. -/
def treeautExamplesUptoRow : OpenClaim := { program := "ytijmhicopfphnaadoor", sum := "9872bb8a61f5941e4f2adf1ac33befa04bf50c3b5fd9ff1d34a77406d4c6afd3", func := "sentinel/sentinellaw18.TreeautExamples", spec := "treeautExamples", inPlace := ["internal/bytealg.IndexByteString", "internal/bytealg.IndexString"], unfollowed := true, recurses := true, named := ["unicode/utf8.first", "unicode/utf8.acceptRanges", "internal/bytealg.MaxLen"], apart := false, laid := [("unicode/utf8.acceptRanges", laid_unicode_utf8_acceptRanges), ("unicode/utf8.first", laid_unicode_utf8_first)], narrowed := true }
def TreeautExamplesUptoSaid : Prop := treeautExamplesUptoRow.holds Tryd.pinned (OpenSpec.upto treeautExamplesSpec)

/-- 'sentinellaw18.TreeautUnites', WHERE WHAT IT READS IS OF BULK AT MOST 1048576: true; the input reads as it did. -/
def treeautUnitesUptoRow : OpenClaim := { program := "ytijmhicopfphnaadoor", sum := "9872bb8a61f5941e4f2adf1ac33befa04bf50c3b5fd9ff1d34a77406d4c6afd3", func := "sentinel/sentinellaw18.TreeautUnites", spec := "treeautUnites", inPlace := ["internal/bytealg.IndexByteString", "internal/bytealg.IndexString"], unfollowed := true, recurses := true, named := ["unicode/utf8.first", "unicode/utf8.acceptRanges", "internal/bytealg.MaxLen"], apart := false, laid := [("unicode/utf8.acceptRanges", laid_unicode_utf8_acceptRanges), ("unicode/utf8.first", laid_unicode_utf8_first)], narrowed := true }
def TreeautUnitesUptoSaid : Prop := treeautUnitesUptoRow.holds Tryd.pinned (OpenSpec.upto treeautUnitesSpec)

/-- 'sentinellaw18.TreeautGrows', WHERE WHAT IT READS IS OF BULK AT MOST 1048576: true; the input reads as it did. -/
def treeautGrowsUptoRow : OpenClaim := { program := "ytijmhicopfphnaadoor", sum := "9872bb8a61f5941e4f2adf1ac33befa04bf50c3b5fd9ff1d34a77406d4c6afd3", func := "sentinel/sentinellaw18.TreeautGrows", spec := "treeautGrows", inPlace := ["internal/bytealg.IndexByteString", "internal/bytealg.IndexString"], unfollowed := true, recurses := true, named := ["unicode/utf8.first", "unicode/utf8.acceptRanges", "internal/bytealg.MaxLen"], apart := false, laid := [("unicode/utf8.acceptRanges", laid_unicode_utf8_acceptRanges), ("unicode/utf8.first", laid_unicode_utf8_first)], narrowed := true }
def TreeautGrowsUptoSaid : Prop := treeautGrowsUptoRow.holds Tryd.pinned (OpenSpec.upto treeautGrowsSpec)

/-- 'sentinellaw18.TreeautReaches', WHERE WHAT IT READS IS OF BULK AT MOST 1048576: true; the input reads as it did. -/
def treeautReachesUptoRow : OpenClaim := { program := "ytijmhicopfphnaadoor", sum := "9872bb8a61f5941e4f2adf1ac33befa04bf50c3b5fd9ff1d34a77406d4c6afd3", func := "sentinel/sentinellaw18.TreeautReaches", spec := "treeautReaches", inPlace := ["internal/bytealg.IndexByteString", "internal/bytealg.IndexString"], unfollowed := true, recurses := true, named := ["unicode/utf8.first", "unicode/utf8.acceptRanges", "internal/bytealg.MaxLen"], apart := false, laid := [("unicode/utf8.acceptRanges", laid_unicode_utf8_acceptRanges), ("unicode/utf8.first", laid_unicode_utf8_first)], narrowed := true }
def TreeautReachesUptoSaid : Prop := treeautReachesUptoRow.holds Tryd.pinned (OpenSpec.upto treeautReachesSpec)

/-- 'sentinellaw18.TreeautTrims', WHERE WHAT IT READS IS OF BULK AT MOST 1048576: true; the input reads as it did. -/
def treeautTrimsUptoRow : OpenClaim := { program := "ytijmhicopfphnaadoor", sum := "9872bb8a61f5941e4f2adf1ac33befa04bf50c3b5fd9ff1d34a77406d4c6afd3", func := "sentinel/sentinellaw18.TreeautTrims", spec := "treeautTrims", inPlace := ["internal/bytealg.IndexByteString", "internal/bytealg.IndexString"], unfollowed := true, recurses := true, named := ["unicode/utf8.first", "unicode/utf8.acceptRanges", "internal/bytealg.MaxLen"], apart := false, laid := [("unicode/utf8.acceptRanges", laid_unicode_utf8_acceptRanges), ("unicode/utf8.first", laid_unicode_utf8_first)], narrowed := true }
def TreeautTrimsUptoSaid : Prop := treeautTrimsUptoRow.holds Tryd.pinned (OpenSpec.upto treeautTrimsSpec)

/-- 'sentinellaw18.TreeautJoins', WHERE WHAT IT READS IS OF BULK AT MOST 1048576: true; the input reads as it did. -/
def treeautJoinsUptoRow : OpenClaim := { program := "ytijmhicopfphnaadoor", sum := "9872bb8a61f5941e4f2adf1ac33befa04bf50c3b5fd9ff1d34a77406d4c6afd3", func := "sentinel/sentinellaw18.TreeautJoins", spec := "treeautJoins", inPlace := ["internal/bytealg.IndexByteString", "internal/bytealg.IndexString"], unfollowed := true, recurses := true, named := ["unicode/utf8.first", "unicode/utf8.acceptRanges", "internal/bytealg.MaxLen"], apart := false, laid := [("unicode/utf8.acceptRanges", laid_unicode_utf8_acceptRanges), ("unicode/utf8.first", laid_unicode_utf8_first)], narrowed := true }
def TreeautJoinsUptoSaid : Prop := treeautJoinsUptoRow.holds Tryd.pinned (OpenSpec.upto treeautJoinsSpec)

/-- 'sentinellaw18.TreeautMirrors', WHERE WHAT IT READS IS OF BULK AT MOST 1048576: true; the input reads as it did. -/
def treeautMirrorsUptoRow : OpenClaim := { program := "ytijmhicopfphnaadoor", sum := "9872bb8a61f5941e4f2adf1ac33befa04bf50c3b5fd9ff1d34a77406d4c6afd3", func := "sentinel/sentinellaw18.TreeautMirrors", spec := "treeautMirrors", inPlace := ["internal/bytealg.IndexByteString", "internal/bytealg.IndexString"], unfollowed := true, recurses := true, named := ["unicode/utf8.first", "unicode/utf8.acceptRanges", "internal/bytealg.MaxLen"], apart := false, laid := [("unicode/utf8.acceptRanges", laid_unicode_utf8_acceptRanges), ("unicode/utf8.first", laid_unicode_utf8_first)], narrowed := true }
def TreeautMirrorsUptoSaid : Prop := treeautMirrorsUptoRow.holds Tryd.pinned (OpenSpec.upto treeautMirrorsSpec)

end Rows
end Go.Proofs.YtijmhicopfphnaaDoor

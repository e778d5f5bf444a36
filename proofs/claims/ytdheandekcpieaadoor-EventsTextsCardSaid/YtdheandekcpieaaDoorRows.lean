/-
  NARROWER THAN 'FOR EVERY INPUT', by the rows' own cells (each row's printed sentence says how): EventsTexts: laid · EventsMonitors: laid · EventsLoads: laid · EventsStep: laid · EventsSaved: laid · EventsPrefix: laid · EventsPermutes: laid · EventsRound: laid · EventsLaws: laid.
  DERIVED. THE GIVEN ROWS OF THIS SEAT. 9 by the template 'for every input the law returns true; each argument reads behind the call as it read before'; 0 by the template 'total and deterministic' (their statements: YtdheandekcpieaaDoorTotals.lean).
  GIVEN WITH THE SEED: the statements are not yours to turn. If you find one false, say at which input.
  Laid BY PROGRAM, IN A SANDBOX (cutbox-rows.mjs): the forced cells as the released guide's own fill.sh prints them over the translation 8d2005ad4e51669f… (all of the seat's roots in one cut). By AI agents, Wed Nov 11 2026. No macro, syntax, notation, axiom, sorry.
-/
import Derived.Test.YtdheandekcpieaaDoorChecked
import GoSem.PinnedTables
import GoSem.Claim
import GoSem.ClaimJoined
import GoSem.ClaimMapViews
import Derived.JoinedTies
import Derived.KernelRfl
namespace Go.Proofs.YtdheandekcpieaaDoor
/- THE CELL 'sum', in the pinned program and in every row, IS THE sha256 OF THE DUMP (.gsa) THAT YtdheandekcpieaaDoorProg.lean LOADS. Nothing in Lean hashes anything: it is a label: what it is worth is what the hold of that sum in a sandbox is worth. -/
noncomputable def Tryd.pinned : Pinned := { name := "ytdheandekcpieaadoor", sum := "8d2005ad4e51669f2f79925cfe16a37b95bed0e25513658a65ca2a9dd58ee519", checked := Tryd.checked }
namespace Rows
def none {H : Type} : Left H := { results := [], args := [] }

/- WHAT THE LISTED PACKAGE-LEVEL VARIABLES READ AS WHEN THE CALL BEGINS. Each datum BY PROGRAM (the guide's laid-datum.mjs) off the statement by which the dump's own 'gosem.cut.vars' lays the variable. In a bare row this is a premise. The card (YtdheandekcpieaaDoorCards.lean) ties it to the program's text. -/
def laid_unicode_utf8_acceptRanges {H : Type} : DataW H := .agg [.agg [.lit (.int .u8 128), .lit (.int .u8 191)], .agg [.lit (.int .u8 160), .lit (.int .u8 191)], .agg [.lit (.int .u8 128), .lit (.int .u8 159)], .agg [.lit (.int .u8 144), .lit (.int .u8 191)], .agg [.lit (.int .u8 128), .lit (.int .u8 143)], .agg [.lit (.int .u8 0), .lit (.int .u8 0)], .agg [.lit (.int .u8 0), .lit (.int .u8 0)], .agg [.lit (.int .u8 0), .lit (.int .u8 0)], .agg [.lit (.int .u8 0), .lit (.int .u8 0)], .agg [.lit (.int .u8 0), .lit (.int .u8 0)], .agg [.lit (.int .u8 0), .lit (.int .u8 0)], .agg [.lit (.int .u8 0), .lit (.int .u8 0)], .agg [.lit (.int .u8 0), .lit (.int .u8 0)], .agg [.lit (.int .u8 0), .lit (.int .u8 0)], .agg [.lit (.int .u8 0), .lit (.int .u8 0)], .agg [.lit (.int .u8 0), .lit (.int .u8 0)]]
/-- One of Go's own tables, pinned by name: the form's constant. -/
def laid_unicode_utf8_first : DataW Unit := Go.Pinned.utf8First

/-- 'sentinellaw40.EventsTexts': WHATEVER THE INPUT: true; the input reads as it did. -/
def eventsTextsSpec : ChangeSpec := { name := "eventsTexts", fn := fun _ => fun
  | [d] => { results := [.lit (.bool true)], args := [d] }
  | _ => none }
def eventsTextsRow : OpenClaim := { program := "ytdheandekcpieaadoor", sum := "8d2005ad4e51669f2f79925cfe16a37b95bed0e25513658a65ca2a9dd58ee519", func := "sentinel/sentinellaw40.EventsTexts", spec := "eventsTexts", inPlace := ["internal/bytealg.IndexByteString", "internal/bytealg.IndexString"], unfollowed := true, recurses := true, named := ["unicode/utf8.first", "unicode/utf8.acceptRanges", "internal/bytealg.MaxLen"], apart := false, laid := [("unicode/utf8.acceptRanges", laid_unicode_utf8_acceptRanges), ("unicode/utf8.first", laid_unicode_utf8_first)] }
def EventsTextsSaid : Prop := eventsTextsRow.holds Tryd.pinned (OpenSpec.ofChange eventsTextsSpec)

/-- ITS FALSE NEIGHBOUR: 'it returns false'. Refute it at one input. -/
def eventsTextsWrong : ChangeSpec := { name := "eventsTexts", fn := fun _ => fun
  | [d] => { results := [.lit (.bool false)], args := [d] }
  | _ => none }
def EventsTextsWrongFalsely : Prop := eventsTextsRow.holds Tryd.pinned (OpenSpec.ofChange eventsTextsWrong)

/-- 'sentinellaw40.EventsMonitors': WHATEVER THE INPUT: true; the input reads as it did. -/
def eventsMonitorsSpec : ChangeSpec := { name := "eventsMonitors", fn := fun _ => fun
  | [d1, d2] => { results := [.lit (.bool true)], args := [d1, d2] }
  | _ => none }
def eventsMonitorsRow : OpenClaim := { program := "ytdheandekcpieaadoor", sum := "8d2005ad4e51669f2f79925cfe16a37b95bed0e25513658a65ca2a9dd58ee519", func := "sentinel/sentinellaw40.EventsMonitors", spec := "eventsMonitors", inPlace := ["internal/bytealg.IndexByteString", "internal/bytealg.IndexString"], unfollowed := true, recurses := true, named := ["unicode/utf8.first", "unicode/utf8.acceptRanges", "internal/bytealg.MaxLen"], apart := false, laid := [("unicode/utf8.acceptRanges", laid_unicode_utf8_acceptRanges), ("unicode/utf8.first", laid_unicode_utf8_first)] }
def EventsMonitorsSaid : Prop := eventsMonitorsRow.holds Tryd.pinned (OpenSpec.ofChange eventsMonitorsSpec)

/-- ITS FALSE NEIGHBOUR: 'it returns false'. Refute it at one input. -/
def eventsMonitorsWrong : ChangeSpec := { name := "eventsMonitors", fn := fun _ => fun
  | [d1, d2] => { results := [.lit (.bool false)], args := [d1, d2] }
  | _ => none }
def EventsMonitorsWrongFalsely : Prop := eventsMonitorsRow.holds Tryd.pinned (OpenSpec.ofChange eventsMonitorsWrong)

/-- 'sentinellaw40.EventsLoads': WHATEVER THE INPUT: true; the input reads as it did. -/
def eventsLoadsSpec : ChangeSpec := { name := "eventsLoads", fn := fun _ => fun
  | [d1, d2, d3] => { results := [.lit (.bool true)], args := [d1, d2, d3] }
  | _ => none }
def eventsLoadsRow : OpenClaim := { program := "ytdheandekcpieaadoor", sum := "8d2005ad4e51669f2f79925cfe16a37b95bed0e25513658a65ca2a9dd58ee519", func := "sentinel/sentinellaw40.EventsLoads", spec := "eventsLoads", inPlace := ["internal/bytealg.IndexByteString", "internal/bytealg.IndexString"], unfollowed := true, recurses := true, named := ["unicode/utf8.first", "unicode/utf8.acceptRanges", "internal/bytealg.MaxLen"], apart := false, laid := [("unicode/utf8.acceptRanges", laid_unicode_utf8_acceptRanges), ("unicode/utf8.first", laid_unicode_utf8_first)] }
def EventsLoadsSaid : Prop := eventsLoadsRow.holds Tryd.pinned (OpenSpec.ofChange eventsLoadsSpec)

/-- ITS FALSE NEIGHBOUR: 'it returns false'. Refute it at one input. -/
def eventsLoadsWrong : ChangeSpec := { name := "eventsLoads", fn := fun _ => fun
  | [d1, d2, d3] => { results := [.lit (.bool false)], args := [d1, d2, d3] }
  | _ => none }
def EventsLoadsWrongFalsely : Prop := eventsLoadsRow.holds Tryd.pinned (OpenSpec.ofChange eventsLoadsWrong)

/-- 'sentinellaw40.EventsStep': WHATEVER THE INPUT: true; the input reads as it did. -/
def eventsStepSpec : ChangeSpec := { name := "eventsStep", fn := fun _ => fun
  | [d1, d2] => { results := [.lit (.bool true)], args := [d1, d2] }
  | _ => none }
def eventsStepRow : OpenClaim := { program := "ytdheandekcpieaadoor", sum := "8d2005ad4e51669f2f79925cfe16a37b95bed0e25513658a65ca2a9dd58ee519", func := "sentinel/sentinellaw40.EventsStep", spec := "eventsStep", inPlace := ["internal/bytealg.IndexByteString", "internal/bytealg.IndexString"], unfollowed := true, recurses := true, named := ["unicode/utf8.first", "unicode/utf8.acceptRanges", "internal/bytealg.MaxLen"], apart := false, laid := [("unicode/utf8.acceptRanges", laid_unicode_utf8_acceptRanges), ("unicode/utf8.first", laid_unicode_utf8_first)] }
def EventsStepSaid : Prop := eventsStepRow.holds Tryd.pinned (OpenSpec.ofChange eventsStepSpec)

/-- ITS FALSE NEIGHBOUR: 'it returns false'. Refute it at one input. -/
def eventsStepWrong : ChangeSpec := { name := "eventsStep", fn := fun _ => fun
  | [d1, d2] => { results := [.lit (.bool false)], args := [d1, d2] }
  | _ => none }
def EventsStepWrongFalsely : Prop := eventsStepRow.holds Tryd.pinned (OpenSpec.ofChange eventsStepWrong)

/-- 'sentinellaw40.EventsSaved': WHATEVER THE INPUT: true; the input reads as it did. -/
def eventsSavedSpec : ChangeSpec := { name := "eventsSaved", fn := fun _ => fun
  | [d1, d2] => { results := [.lit (.bool true)], args := [d1, d2] }
  | _ => none }
def eventsSavedRow : OpenClaim := { program := "ytdheandekcpieaadoor", sum := "8d2005ad4e51669f2f79925cfe16a37b95bed0e25513658a65ca2a9dd58ee519", func := "sentinel/sentinellaw40.EventsSaved", spec := "eventsSaved", inPlace := ["internal/bytealg.IndexByteString", "internal/bytealg.IndexString"], unfollowed := true, recurses := true, named := ["unicode/utf8.first", "unicode/utf8.acceptRanges", "internal/bytealg.MaxLen"], apart := false, laid := [("unicode/utf8.acceptRanges", laid_unicode_utf8_acceptRanges), ("unicode/utf8.first", laid_unicode_utf8_first)] }
def EventsSavedSaid : Prop := eventsSavedRow.holds Tryd.pinned (OpenSpec.ofChange eventsSavedSpec)

/-- ITS FALSE NEIGHBOUR: 'it returns false'. Refute it at one input. -/
def eventsSavedWrong : ChangeSpec := { name := "eventsSaved", fn := fun _ => fun
  | [d1, d2] => { results := [.lit (.bool false)], args := [d1, d2] }
  | _ => none }
def EventsSavedWrongFalsely : Prop := eventsSavedRow.holds Tryd.pinned (OpenSpec.ofChange eventsSavedWrong)

/-- 'sentinellaw40.EventsPrefix': WHATEVER THE INPUT: true; the input reads as it did. -/
def eventsPrefixSpec : ChangeSpec := { name := "eventsPrefix", fn := fun _ => fun
  | [d1, d2, d3] => { results := [.lit (.bool true)], args := [d1, d2, d3] }
  | _ => none }
def eventsPrefixRow : OpenClaim := { program := "ytdheandekcpieaadoor", sum := "8d2005ad4e51669f2f79925cfe16a37b95bed0e25513658a65ca2a9dd58ee519", func := "sentinel/sentinellaw40.EventsPrefix", spec := "eventsPrefix", inPlace := ["internal/bytealg.IndexByteString", "internal/bytealg.IndexString"], unfollowed := true, recurses := true, named := ["unicode/utf8.first", "unicode/utf8.acceptRanges", "internal/bytealg.MaxLen"], apart := false, laid := [("unicode/utf8.acceptRanges", laid_unicode_utf8_acceptRanges), ("unicode/utf8.first", laid_unicode_utf8_first)] }
def EventsPrefixSaid : Prop := eventsPrefixRow.holds Tryd.pinned (OpenSpec.ofChange eventsPrefixSpec)

/-- ITS FALSE NEIGHBOUR: 'it returns false'. Refute it at one input. -/
def eventsPrefixWrong : ChangeSpec := { name := "eventsPrefix", fn := fun _ => fun
  | [d1, d2, d3] => { results := [.lit (.bool false)], args := [d1, d2, d3] }
  | _ => none }
def EventsPrefixWrongFalsely : Prop := eventsPrefixRow.holds Tryd.pinned (OpenSpec.ofChange eventsPrefixWrong)

/-- 'sentinellaw40.EventsPermutes': WHATEVER THE INPUT: true; the input reads as it did. -/
def eventsPermutesSpec : ChangeSpec := { name := "eventsPermutes", fn := fun _ => fun
  | [d1, d2, d3] => { results := [.lit (.bool true)], args := [d1, d2, d3] }
  | _ => none }
def eventsPermutesRow : OpenClaim := { program := "ytdheandekcpieaadoor", sum := "8d2005ad4e51669f2f79925cfe16a37b95bed0e25513658a65ca2a9dd58ee519", func := "sentinel/sentinellaw40.EventsPermutes", spec := "eventsPermutes", inPlace := ["internal/bytealg.IndexByteString", "internal/bytealg.IndexString"], unfollowed := true, recurses := true, named := ["unicode/utf8.first", "unicode/utf8.acceptRanges", "internal/bytealg.MaxLen"], apart := false, laid := [("unicode/utf8.acceptRanges", laid_unicode_utf8_acceptRanges), ("unicode/utf8.first", laid_unicode_utf8_first)] }
def EventsPermutesSaid : Prop := eventsPermutesRow.holds Tryd.pinned (OpenSpec.ofChange eventsPermutesSpec)

/-- ITS FALSE NEIGHBOUR: 'it returns false'. Refute it at one input. -/
def eventsPermutesWrong : ChangeSpec := { name := "eventsPermutes", fn := fun _ => fun
  | [d1, d2, d3] => { results := [.lit (.bool false)], args := [d1, d2, d3] }
  | _ => none }
def EventsPermutesWrongFalsely : Prop := eventsPermutesRow.holds Tryd.pinned (OpenSpec.ofChange eventsPermutesWrong)

/-- 'sentinellaw40.EventsRound': WHATEVER THE INPUT: true; the input reads as it did. -/
def eventsRoundSpec : ChangeSpec := { name := "eventsRound", fn := fun _ => fun
  | [d1, d2] => { results := [.lit (.bool true)], args := [d1, d2] }
  | _ => none }
def eventsRoundRow : OpenClaim := { program := "ytdheandekcpieaadoor", sum := "8d2005ad4e51669f2f79925cfe16a37b95bed0e25513658a65ca2a9dd58ee519", func := "sentinel/sentinellaw40.EventsRound", spec := "eventsRound", inPlace := ["internal/abi.NoEscape", "internal/bytealg.MakeNoZero", "internal/bytealg.IndexByteString", "internal/bytealg.IndexString"], unfollowed := true, recurses := true, named := ["unicode/utf8.first", "unicode/utf8.acceptRanges", "internal/bytealg.MaxLen"], apart := false, laid := [("unicode/utf8.acceptRanges", laid_unicode_utf8_acceptRanges), ("unicode/utf8.first", laid_unicode_utf8_first)] }
def EventsRoundSaid : Prop := eventsRoundRow.holds Tryd.pinned (OpenSpec.ofChange eventsRoundSpec)

/-- ITS FALSE NEIGHBOUR: 'it returns false'. Refute it at one input. -/
def eventsRoundWrong : ChangeSpec := { name := "eventsRound", fn := fun _ => fun
  | [d1, d2] => { results := [.lit (.bool false)], args := [d1, d2] }
  | _ => none }
def EventsRoundWrongFalsely : Prop := eventsRoundRow.holds Tryd.pinned (OpenSpec.ofChange eventsRoundWrong)

/-- 'sentinellaw40.EventsLaws': WHATEVER THE INPUT: true; the input reads as it did. -/
def eventsLawsSpec : ChangeSpec := { name := "eventsLaws", fn := fun _ => fun
  | [d1, d2, d3] => { results := [.lit (.bool true)], args := [d1, d2, d3] }
  | _ => none }
def eventsLawsRow : OpenClaim := { program := "ytdheandekcpieaadoor", sum := "8d2005ad4e51669f2f79925cfe16a37b95bed0e25513658a65ca2a9dd58ee519", func := "sentinel/sentinellaw40.EventsLaws", spec := "eventsLaws", inPlace := ["internal/abi.NoEscape", "internal/bytealg.MakeNoZero", "internal/bytealg.IndexByteString", "internal/bytealg.IndexString"], unfollowed := true, recurses := true, named := ["unicode/utf8.first", "unicode/utf8.acceptRanges", "internal/bytealg.MaxLen"], apart := false, laid := [("unicode/utf8.acceptRanges", laid_unicode_utf8_acceptRanges), ("unicode/utf8.first", laid_unicode_utf8_first)] }
def EventsLawsSaid : Prop := eventsLawsRow.holds Tryd.pinned (OpenSpec.ofChange eventsLawsSpec)

/-- ITS FALSE NEIGHBOUR: 'it returns false'. Refute it at one input. -/
def eventsLawsWrong : ChangeSpec := { name := "eventsLaws", fn := fun _ => fun
  | [d1, d2, d3] => { results := [.lit (.bool false)], args := [d1, d2, d3] }
  | _ => none }
def EventsLawsWrongFalsely : Prop := eventsLawsRow.holds Tryd.pinned (OpenSpec.ofChange eventsLawsWrong)

/- THE SECOND FORM. 'bulk': how many values and letters a reading holds, each counted each time it is reached (what is shared counts as often as it is met; a slice's spare places count too). A statement '..UptoSaid' is the law's where the arguments, and the package variables that the reading takes, are together of bulk at most 1048576: NARROWER than '..Said'. Prove '..Said' where nothing that the law and all that it calls make is longer than what came in: it says more and counts as full. Else prove '..UptoSaid'. A law counts once. -/
mutual
def uptoBulk {H : Type} : DataW H → Nat
  | .lit (.string bytes) => bytes.length + 1
  | .lit _ => 1
  | .nil => 1
  | .ptr d => uptoBulk d + 1
  | .slice elems spare => uptoBulkAll elems + uptoBulkAll spare + 1
  | .agg parts => uptoBulkAll parts + 1
  | .iface _ d => uptoBulk d + 1
  | .map entries => uptoBulkEntries entries + 1
  | .held _ => 1
def uptoBulkAll {H : Type} : List (DataW H) → Nat
  | [] => 0
  | d :: r => uptoBulk d + uptoBulkAll r
def uptoBulkEntries {H : Type} : List (Lit × DataW H) → Nat
  | [] => 0
  | x :: r => uptoBulkEntry x + uptoBulkEntries r
def uptoBulkEntry {H : Type} : Lit × DataW H → Nat
  | (.string bytes, d) => bytes.length + uptoBulk d + 1
  | (_, d) => uptoBulk d + 1
 end
def uptoSmall : (H : Type) → List (DataW H) → Bool := fun _ ds => decide (uptoBulkAll ds ≤ 1048576)
def OpenSpec.upto (s : _root_.Go.ChangeSpec) : _root_.Go.OpenSpec := { _root_.Go.OpenSpec.ofChange s with cond := some uptoSmall }

/-- 'sentinellaw40.EventsTexts', WHERE WHAT IT READS IS OF BULK AT MOST 1048576: true; the input reads as it did. -/
def eventsTextsUptoRow : OpenClaim := { program := "ytdheandekcpieaadoor", sum := "8d2005ad4e51669f2f79925cfe16a37b95bed0e25513658a65ca2a9dd58ee519", func := "sentinel/sentinellaw40.EventsTexts", spec := "eventsTexts", inPlace := ["internal/bytealg.IndexByteString", "internal/bytealg.IndexString"], unfollowed := true, recurses := true, named := ["unicode/utf8.first", "unicode/utf8.acceptRanges", "internal/bytealg.MaxLen"], apart := false, laid := [("unicode/utf8.acceptRanges", laid_unicode_utf8_acceptRanges), ("unicode/utf8.first", laid_unicode_utf8_first)], narrowed := true }
def EventsTextsUptoSaid : Prop := eventsTextsUptoRow.holds Tryd.pinned (OpenSpec.upto eventsTextsSpec)

/-- 'sentinellaw40.EventsMonitors', WHERE WHAT IT READS IS OF BULK AT MOST 1048576: true; the input reads as it did. -/
def eventsMonitorsUptoRow : OpenClaim := { program := "ytdheandekcpieaadoor", sum := "8d2005ad4e51669f2f79925cfe16a37b95bed0e25513658a65ca2a9dd58ee519", func := "sentinel/sentinellaw40.EventsMonitors", spec := "eventsMonitors", inPlace := ["internal/bytealg.IndexByteString", "internal/bytealg.IndexString"], unfollowed := true, recurses := true, named := ["unicode/utf8.first", "unicode/utf8.acceptRanges", "internal/bytealg.MaxLen"], apart := false, laid := [("unicode/utf8.acceptRanges", laid_unicode_utf8_acceptRanges), ("unicode/utf8.first", laid_unicode_utf8_first)], narrowed := true }
def EventsMonitorsUptoSaid : Prop := eventsMonitorsUptoRow.holds Tryd.pinned (OpenSpec.upto eventsMonitorsSpec)

/-- 'sentinellaw40.EventsLoads', WHERE WHAT IT READS IS OF BULK AT MOST 1048576: true; the input reads as it did. -/
def eventsLoadsUptoRow : OpenClaim := { program := "ytdheandekcpieaadoor", sum := "8d2005ad4e51669f2f79925cfe16a37b95bed0e25513658a65ca2a9dd58ee519", func := "sentinel/sentinellaw40.EventsLoads", spec := "eventsLoads", inPlace := ["internal/bytealg.IndexByteString", "internal/bytealg.IndexString"], unfollowed := true, recurses := true, named := ["unicode/utf8.first", "unicode/utf8.acceptRanges", "internal/bytealg.MaxLen"], apart := false, laid := [("unicode/utf8.acceptRanges", laid_unicode_utf8_acceptRanges), ("unicode/utf8.first", laid_unicode_utf8_first)], narrowed := true }
def EventsLoadsUptoSaid : Prop := eventsLoadsUptoRow.holds Tryd.pinned (OpenSpec.upto eventsLoadsSpec)

/-- 'sentinellaw40.EventsStep', WHERE WHAT IT READS IS OF BULK AT MOST 1048576: true; the input reads as it did. -/
def eventsStepUptoRow : OpenClaim := { program := "ytdheandekcpieaadoor", sum := "8d2005ad4e51669f2f79925cfe16a37b95bed0e25513658a65ca2a9dd58ee519", func := "sentinel/sentinellaw40.EventsStep", spec := "eventsStep", inPlace := ["internal/bytealg.IndexByteString", "internal/bytealg.IndexString"], unfollowed := true, recurses := true, named := ["unicode/utf8.first", "unicode/utf8.acceptRanges", "internal/bytealg.MaxLen"], apart := false, laid := [("unicode/utf8.acceptRanges", laid_unicode_utf8_acceptRanges), ("unicode/utf8.first", laid_unicode_utf8_first)], narrowed := true }
def EventsStepUptoSaid : Prop := eventsStepUptoRow.holds Tryd.pinned (OpenSpec.upto eventsStepSpec)

/-- 'sentinellaw40.EventsSaved', WHERE WHAT IT READS IS OF BULK AT MOST 1048576: true; the input reads as it did. -/
def eventsSavedUptoRow : OpenClaim := { program := "ytdheandekcpieaadoor", sum := "8d2005ad4e51669f2f79925cfe16a37b95bed0e25513658a65ca2a9dd58ee519", func := "sentinel/sentinellaw40.EventsSaved", spec := "eventsSaved", inPlace := ["internal/bytealg.IndexByteString", "internal/bytealg.IndexString"], unfollowed := true, recurses := true, named := ["unicode/utf8.first", "unicode/utf8.acceptRanges", "internal/bytealg.MaxLen"], apart := false, laid := [("unicode/utf8.acceptRanges", laid_unicode_utf8_acceptRanges), ("unicode/utf8.first", laid_unicode_utf8_first)], narrowed := true }
def EventsSavedUptoSaid : Prop := eventsSavedUptoRow.holds Tryd.pinned (OpenSpec.upto eventsSavedSpec)

/-- 'sentinellaw40.EventsPrefix', WHERE WHAT IT READS IS OF BULK AT MOST 1048576: true; the input reads as it did. -/
def eventsPrefixUptoRow : OpenClaim := { program := "ytdheandekcpieaadoor", sum := "8d2005ad4e51669f2f79925cfe16a37b95bed0e25513658a65ca2a9dd58ee519", func := "sentinel/sentinellaw40.EventsPrefix", spec := "eventsPrefix", inPlace := ["internal/bytealg.IndexByteString", "internal/bytealg.IndexString"], unfollowed := true, recurses := true, named := ["unicode/utf8.first", "unicode/utf8.acceptRanges", "internal/bytealg.MaxLen"], apart := false, laid := [("unicode/utf8.acceptRanges", laid_unicode_utf8_acceptRanges), ("unicode/utf8.first", laid_unicode_utf8_first)], narrowed := true }
def EventsPrefixUptoSaid : Prop := eventsPrefixUptoRow.holds Tryd.pinned (OpenSpec.upto eventsPrefixSpec)

/-- 'sentinellaw40.EventsPermutes', WHERE WHAT IT READS IS OF BULK AT MOST 1048576: true; the input reads as it did. -/
def eventsPermutesUptoRow : OpenClaim := { program := "ytdheandekcpieaadoor", sum := "8d2005ad4e51669f2f79925cfe16a37b95bed0e25513658a65ca2a9dd58ee519", func := "sentinel/sentinellaw40.EventsPermutes", spec := "eventsPermutes", inPlace := ["internal/bytealg.IndexByteString", "internal/bytealg.IndexString"], unfollowed := true, recurses := true, named := ["unicode/utf8.first", "unicode/utf8.acceptRanges", "internal/bytealg.MaxLen"], apart := false, laid := [("unicode/utf8.acceptRanges", laid_unicode_utf8_acceptRanges), ("unicode/utf8.first", laid_unicode_utf8_first)], narrowed := true }
def EventsPermutesUptoSaid : Prop := eventsPermutesUptoRow.holds Tryd.pinned (OpenSpec.upto eventsPermutesSpec)

/-- 'sentinellaw40.EventsRound', WHERE WHAT IT READS IS OF BULK AT MOST 1048576: true; the input reads as it did. -/
def eventsRoundUptoRow : OpenClaim := { program := "ytdheandekcpieaadoor", sum := "8d2005ad4e51669f2f79925cfe16a37b95bed0e25513658a65ca2a9dd58ee519", func := "sentinel/sentinellaw40.EventsRound", spec := "eventsRound", inPlace := ["internal/abi.NoEscape", "internal/bytealg.MakeNoZero", "internal/bytealg.IndexByteString", "internal/bytealg.IndexString"], unfollowed := true, recurses := true, named := ["unicode/utf8.first", "unicode/utf8.acceptRanges", "internal/bytealg.MaxLen"], apart := false, laid := [("unicode/utf8.acceptRanges", laid_unicode_utf8_acceptRanges), ("unicode/utf8.first", laid_unicode_utf8_first)], narrowed := true }
def EventsRoundUptoSaid : Prop := eventsRoundUptoRow.holds Tryd.pinned (OpenSpec.upto eventsRoundSpec)

/-- 'sentinellaw40.EventsLaws', WHERE WHAT IT READS IS OF BULK AT MOST 1048576: true; the input reads as it did. -/
def eventsLawsUptoRow : OpenClaim := { program := "ytdheandekcpieaadoor", sum := "8d2005ad4e51669f2f79925cfe16a37b95bed0e25513658a65ca2a9dd58ee519", func := "sentinel/sentinellaw40.EventsLaws", spec := "eventsLaws", inPlace := ["internal/abi.NoEscape", "internal/bytealg.MakeNoZero", "internal/bytealg.IndexByteString", "internal/bytealg.IndexString"], unfollowed := true, recurses := true, named := ["unicode/utf8.first", "unicode/utf8.acceptRanges", "internal/bytealg.MaxLen"], apart := false, laid := [("unicode/utf8.acceptRanges", laid_unicode_utf8_acceptRanges), ("unicode/utf8.first", laid_unicode_utf8_first)], narrowed := true }
def EventsLawsUptoSaid : Prop := eventsLawsUptoRow.holds Tryd.pinned (OpenSpec.upto eventsLawsSpec)

end Rows
end Go.Proofs.YtdheandekcpieaaDoor

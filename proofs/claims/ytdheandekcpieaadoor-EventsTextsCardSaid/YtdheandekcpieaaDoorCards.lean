/-
  DERIVED. GIVEN WITH THE SEED: THE CARDS: each row of YtdheandekcpieaaDoorRows.lean that lists a variable, with what it lists TIED to the program's text (the seventh form; the later family's looks); each row that meets fmt, with fmt's text TOLD by the authors' own Lean function (tested against real Go, not proved from fmt's source: count such statements apart). THE CARD IS WHAT COUNTS. Prove the row's statement (the work); the ties are given (YtdheandekcpieaaDoorTie.lean); close each card by the builder's one call (the guide's Derived/Test/ToyasCard.lean, 'card_holds'). Laid BY PROGRAM, IN A SANDBOX (cutbox-door.mjs). By AI agents, Wed Nov 11 2026. No macro, syntax, notation, axiom, sorry.
-/
import Derived.Test.YtdheandekcpieaaDoorRows
import GoSem.ClaimSeven
namespace Go.Proofs.YtdheandekcpieaaDoor
namespace Rows

/-- THE TIED CARD OF 'sentinellaw40.EventsTexts'. -/
def eventsTextsCard : Claim7 := { stood := { row := eventsTextsRow, standIns := [], harness := (true, "41bc55b555fbaed9a660faec64b603b8831f2b2ca2b4e9e1066ced267b355f79"), looks := true }, kinds := [], alts := [], laidByText := true, laidKinds := [.data, .pinned], laidTests := true, laidLooks := .later }
def EventsTextsCardSaid : Prop := Claim7.holds Tryd.pinned (.plain (OpenSpec.ofChange eventsTextsSpec)) eventsTextsCard

/-- THE TIED CARD OF 'sentinellaw40.EventsMonitors'. -/
def eventsMonitorsCard : Claim7 := { stood := { row := eventsMonitorsRow, standIns := [], harness := (true, "41bc55b555fbaed9a660faec64b603b8831f2b2ca2b4e9e1066ced267b355f79"), looks := true }, kinds := [], alts := [], laidByText := true, laidKinds := [.data, .pinned], laidTests := true, laidLooks := .later }
def EventsMonitorsCardSaid : Prop := Claim7.holds Tryd.pinned (.plain (OpenSpec.ofChange eventsMonitorsSpec)) eventsMonitorsCard

/-- THE TIED CARD OF 'sentinellaw40.EventsLoads'. -/
def eventsLoadsCard : Claim7 := { stood := { row := eventsLoadsRow, standIns := [], harness := (true, "41bc55b555fbaed9a660faec64b603b8831f2b2ca2b4e9e1066ced267b355f79"), looks := true }, kinds := [], alts := [], laidByText := true, laidKinds := [.data, .pinned], laidTests := true, laidLooks := .later }
def EventsLoadsCardSaid : Prop := Claim7.holds Tryd.pinned (.plain (OpenSpec.ofChange eventsLoadsSpec)) eventsLoadsCard

/-- THE TIED CARD OF 'sentinellaw40.EventsStep'. -/
def eventsStepCard : Claim7 := { stood := { row := eventsStepRow, standIns := [], harness := (true, "41bc55b555fbaed9a660faec64b603b8831f2b2ca2b4e9e1066ced267b355f79"), looks := true }, kinds := [], alts := [], laidByText := true, laidKinds := [.data, .pinned], laidTests := true, laidLooks := .later }
def EventsStepCardSaid : Prop := Claim7.holds Tryd.pinned (.plain (OpenSpec.ofChange eventsStepSpec)) eventsStepCard

/-- THE TIED CARD OF 'sentinellaw40.EventsSaved'. -/
def eventsSavedCard : Claim7 := { stood := { row := eventsSavedRow, standIns := [], harness := (true, "41bc55b555fbaed9a660faec64b603b8831f2b2ca2b4e9e1066ced267b355f79"), looks := true }, kinds := [], alts := [], laidByText := true, laidKinds := [.data, .pinned], laidTests := true, laidLooks := .later }
def EventsSavedCardSaid : Prop := Claim7.holds Tryd.pinned (.plain (OpenSpec.ofChange eventsSavedSpec)) eventsSavedCard

/-- THE TIED CARD OF 'sentinellaw40.EventsPrefix'. -/
def eventsPrefixCard : Claim7 := { stood := { row := eventsPrefixRow, standIns := [], harness := (true, "41bc55b555fbaed9a660faec64b603b8831f2b2ca2b4e9e1066ced267b355f79"), looks := true }, kinds := [], alts := [], laidByText := true, laidKinds := [.data, .pinned], laidTests := true, laidLooks := .later }
def EventsPrefixCardSaid : Prop := Claim7.holds Tryd.pinned (.plain (OpenSpec.ofChange eventsPrefixSpec)) eventsPrefixCard

/-- THE TIED CARD OF 'sentinellaw40.EventsPermutes'. -/
def eventsPermutesCard : Claim7 := { stood := { row := eventsPermutesRow, standIns := [], harness := (true, "41bc55b555fbaed9a660faec64b603b8831f2b2ca2b4e9e1066ced267b355f79"), looks := true }, kinds := [], alts := [], laidByText := true, laidKinds := [.data, .pinned], laidTests := true, laidLooks := .later }
def EventsPermutesCardSaid : Prop := Claim7.holds Tryd.pinned (.plain (OpenSpec.ofChange eventsPermutesSpec)) eventsPermutesCard

/-- THE TIED CARD OF 'sentinellaw40.EventsRound'. -/
def eventsRoundCard : Claim7 := { stood := { row := eventsRoundRow, standIns := [], harness := (true, "41bc55b555fbaed9a660faec64b603b8831f2b2ca2b4e9e1066ced267b355f79"), looks := true }, kinds := [], alts := [], laidByText := true, laidKinds := [.data, .pinned], laidTests := true, laidLooks := .later }
def EventsRoundCardSaid : Prop := Claim7.holds Tryd.pinned (.plain (OpenSpec.ofChange eventsRoundSpec)) eventsRoundCard

/-- THE TIED CARD OF 'sentinellaw40.EventsLaws'. -/
def eventsLawsCard : Claim7 := { stood := { row := eventsLawsRow, standIns := [], harness := (true, "41bc55b555fbaed9a660faec64b603b8831f2b2ca2b4e9e1066ced267b355f79"), looks := true }, kinds := [], alts := [], laidByText := true, laidKinds := [.data, .pinned], laidTests := true, laidLooks := .later }
def EventsLawsCardSaid : Prop := Claim7.holds Tryd.pinned (.plain (OpenSpec.ofChange eventsLawsSpec)) eventsLawsCard

/-- THE SECOND FORM's CARD OF 'sentinellaw40.EventsTexts'. -/
def eventsTextsUptoCard : Claim7 := { stood := { row := eventsTextsUptoRow, standIns := [], harness := (true, "41bc55b555fbaed9a660faec64b603b8831f2b2ca2b4e9e1066ced267b355f79"), looks := true }, kinds := [], alts := [], laidByText := true, laidKinds := [.data, .pinned], laidTests := true, laidLooks := .later }
def EventsTextsUptoCardSaid : Prop := Claim7.holds Tryd.pinned (.plain (OpenSpec.upto eventsTextsSpec)) eventsTextsUptoCard

/-- THE SECOND FORM's CARD OF 'sentinellaw40.EventsMonitors'. -/
def eventsMonitorsUptoCard : Claim7 := { stood := { row := eventsMonitorsUptoRow, standIns := [], harness := (true, "41bc55b555fbaed9a660faec64b603b8831f2b2ca2b4e9e1066ced267b355f79"), looks := true }, kinds := [], alts := [], laidByText := true, laidKinds := [.data, .pinned], laidTests := true, laidLooks := .later }
def EventsMonitorsUptoCardSaid : Prop := Claim7.holds Tryd.pinned (.plain (OpenSpec.upto eventsMonitorsSpec)) eventsMonitorsUptoCard

/-- THE SECOND FORM's CARD OF 'sentinellaw40.EventsLoads'. -/
def eventsLoadsUptoCard : Claim7 := { stood := { row := eventsLoadsUptoRow, standIns := [], harness := (true, "41bc55b555fbaed9a660faec64b603b8831f2b2ca2b4e9e1066ced267b355f79"), looks := true }, kinds := [], alts := [], laidByText := true, laidKinds := [.data, .pinned], laidTests := true, laidLooks := .later }
def EventsLoadsUptoCardSaid : Prop := Claim7.holds Tryd.pinned (.plain (OpenSpec.upto eventsLoadsSpec)) eventsLoadsUptoCard

/-- THE SECOND FORM's CARD OF 'sentinellaw40.EventsStep'. -/
def eventsStepUptoCard : Claim7 := { stood := { row := eventsStepUptoRow, standIns := [], harness := (true, "41bc55b555fbaed9a660faec64b603b8831f2b2ca2b4e9e1066ced267b355f79"), looks := true }, kinds := [], alts := [], laidByText := true, laidKinds := [.data, .pinned], laidTests := true, laidLooks := .later }
def EventsStepUptoCardSaid : Prop := Claim7.holds Tryd.pinned (.plain (OpenSpec.upto eventsStepSpec)) eventsStepUptoCard

/-- THE SECOND FORM's CARD OF 'sentinellaw40.EventsSaved'. -/
def eventsSavedUptoCard : Claim7 := { stood := { row := eventsSavedUptoRow, standIns := [], harness := (true, "41bc55b555fbaed9a660faec64b603b8831f2b2ca2b4e9e1066ced267b355f79"), looks := true }, kinds := [], alts := [], laidByText := true, laidKinds := [.data, .pinned], laidTests := true, laidLooks := .later }
def EventsSavedUptoCardSaid : Prop := Claim7.holds Tryd.pinned (.plain (OpenSpec.upto eventsSavedSpec)) eventsSavedUptoCard

/-- THE SECOND FORM's CARD OF 'sentinellaw40.EventsPrefix'. -/
def eventsPrefixUptoCard : Claim7 := { stood := { row := eventsPrefixUptoRow, standIns := [], harness := (true, "41bc55b555fbaed9a660faec64b603b8831f2b2ca2b4e9e1066ced267b355f79"), looks := true }, kinds := [], alts := [], laidByText := true, laidKinds := [.data, .pinned], laidTests := true, laidLooks := .later }
def EventsPrefixUptoCardSaid : Prop := Claim7.holds Tryd.pinned (.plain (OpenSpec.upto eventsPrefixSpec)) eventsPrefixUptoCard

/-- THE SECOND FORM's CARD OF 'sentinellaw40.EventsPermutes'. -/
def eventsPermutesUptoCard : Claim7 := { stood := { row := eventsPermutesUptoRow, standIns := [], harness := (true, "41bc55b555fbaed9a660faec64b603b8831f2b2ca2b4e9e1066ced267b355f79"), looks := true }, kinds := [], alts := [], laidByText := true, laidKinds := [.data, .pinned], laidTests := true, laidLooks := .later }
def EventsPermutesUptoCardSaid : Prop := Claim7.holds Tryd.pinned (.plain (OpenSpec.upto eventsPermutesSpec)) eventsPermutesUptoCard

/-- THE SECOND FORM's CARD OF 'sentinellaw40.EventsRound'. -/
def eventsRoundUptoCard : Claim7 := { stood := { row := eventsRoundUptoRow, standIns := [], harness := (true, "41bc55b555fbaed9a660faec64b603b8831f2b2ca2b4e9e1066ced267b355f79"), looks := true }, kinds := [], alts := [], laidByText := true, laidKinds := [.data, .pinned], laidTests := true, laidLooks := .later }
def EventsRoundUptoCardSaid : Prop := Claim7.holds Tryd.pinned (.plain (OpenSpec.upto eventsRoundSpec)) eventsRoundUptoCard

/-- THE SECOND FORM's CARD OF 'sentinellaw40.EventsLaws'. -/
def eventsLawsUptoCard : Claim7 := { stood := { row := eventsLawsUptoRow, standIns := [], harness := (true, "41bc55b555fbaed9a660faec64b603b8831f2b2ca2b4e9e1066ced267b355f79"), looks := true }, kinds := [], alts := [], laidByText := true, laidKinds := [.data, .pinned], laidTests := true, laidLooks := .later }
def EventsLawsUptoCardSaid : Prop := Claim7.holds Tryd.pinned (.plain (OpenSpec.upto eventsLawsSpec)) eventsLawsUptoCard
end Rows
end Go.Proofs.YtdheandekcpieaaDoor

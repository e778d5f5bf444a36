/-
  DERIVED. GIVEN WITH THE SEED: THE CARDS: each row of YtdheandekcpieaaGreatDoorRows.lean that lists a variable, with what it lists TIED to the program's text (the seventh form; the later family's looks); each row that meets fmt, with fmt's text TOLD by the authors' own Lean function (tested against real Go, not proved from fmt's source: count such statements apart). THE CARD IS WHAT COUNTS. Prove the row's statement (the work); the ties are given (YtdheandekcpieaaGreatDoorTie.lean); close each card by the builder's one call (the guide's Derived/Test/ToyasCard.lean, 'card_holds'). Laid BY PROGRAM, IN A SANDBOX (cutbox-door.mjs). By AI agents, Wed Nov 11 2026. No macro, syntax, notation, axiom, sorry.
-/
import Derived.Test.YtdheandekcpieaaGreatDoorRows
import GoSem.ClaimSeven
namespace Go.Proofs.YtdheandekcpieaaGreatDoor
namespace Rows

/-- THE TIED CARD OF 'sentinellaw40.EventsMatches'. -/
def eventsMatchesCard : Claim7 := { stood := { row := eventsMatchesRow, standIns := [], harness := (true, "ac051202e3316171f16e4afd5196618bf4b66b979911afed2bd23271c3301fb7"), looks := true }, kinds := [], alts := [], laidByText := true, laidKinds := [.data, .pinned], laidTests := true, laidLooks := .later }
def EventsMatchesCardSaid : Prop := Claim7.holds Tryz.pinned (.plain (OpenSpec.ofChange eventsMatchesSpec)) eventsMatchesCard

/-- THE TIED CARD OF 'sentinellaw40.EventsExamples'. -/
def eventsExamplesCard : Claim7 := { stood := { row := eventsExamplesRow, standIns := [], harness := (true, "ac051202e3316171f16e4afd5196618bf4b66b979911afed2bd23271c3301fb7"), looks := true }, kinds := [], alts := [], laidByText := true, laidKinds := [.data, .pinned], laidTests := true, laidLooks := .later }
def EventsExamplesCardSaid : Prop := Claim7.holds Tryz.pinned (.plain (OpenSpec.ofChange eventsExamplesSpec)) eventsExamplesCard

/-- THE SECOND FORM's CARD OF 'sentinellaw40.EventsMatches'. -/
def eventsMatchesUptoCard : Claim7 := { stood := { row := eventsMatchesUptoRow, standIns := [], harness := (true, "ac051202e3316171f16e4afd5196618bf4b66b979911afed2bd23271c3301fb7"), looks := true }, kinds := [], alts := [], laidByText := true, laidKinds := [.data, .pinned], laidTests := true, laidLooks := .later }
def EventsMatchesUptoCardSaid : Prop := Claim7.holds Tryz.pinned (.plain (OpenSpec.upto eventsMatchesSpec)) eventsMatchesUptoCard

/-- THE SECOND FORM's CARD OF 'sentinellaw40.EventsExamples'. -/
def eventsExamplesUptoCard : Claim7 := { stood := { row := eventsExamplesUptoRow, standIns := [], harness := (true, "ac051202e3316171f16e4afd5196618bf4b66b979911afed2bd23271c3301fb7"), looks := true }, kinds := [], alts := [], laidByText := true, laidKinds := [.data, .pinned], laidTests := true, laidLooks := .later }
def EventsExamplesUptoCardSaid : Prop := Claim7.holds Tryz.pinned (.plain (OpenSpec.upto eventsExamplesSpec)) eventsExamplesUptoCard
end Rows
end Go.Proofs.YtdheandekcpieaaGreatDoor

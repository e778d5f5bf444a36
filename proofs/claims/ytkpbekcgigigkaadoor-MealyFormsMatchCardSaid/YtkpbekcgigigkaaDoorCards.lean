/-
  DERIVED. GIVEN WITH THE SEED: THE CARDS: each row of YtkpbekcgigigkaaDoorRows.lean that lists a variable, with what it lists TIED to the program's text (the seventh form; the later family's looks); each row that meets fmt, with fmt's text TOLD by the authors' own Lean function (tested against real Go, not proved from fmt's source: count such statements apart). THE CARD IS WHAT COUNTS. Prove the row's statement (the work); the ties are given (YtkpbekcgigigkaaDoorTie.lean); close each card by the builder's one call (the guide's Derived/Test/ToyasCard.lean, 'card_holds'). Laid BY PROGRAM, IN A SANDBOX (cutbox-door.mjs). By AI agents, Wed Nov 11 2026. No macro, syntax, notation, axiom, sorry.
-/
import Derived.Test.YtkpbekcgigigkaaDoorRows
import GoSem.ClaimSeven
namespace Go.Proofs.YtkpbekcgigigkaaDoor
namespace Rows

/-- THE TIED CARD OF 'sentinellaw34.MealyMatches'. -/
def mealyMatchesCard : Claim7 := { stood := { row := mealyMatchesRow, standIns := [], harness := (true, "8f29363363e7e3f60b588ba9987ca75bc114b837e402e67eb701aefd772f4ece"), looks := false }, kinds := [], alts := [], laidByText := true, laidKinds := [.data, .data, .data], laidTests := true, laidLooks := .later }
def MealyMatchesCardSaid : Prop := Claim7.holds Tryd.pinned (.plain (OpenSpec.ofChange mealyMatchesSpec)) mealyMatchesCard

/-- THE TIED CARD OF 'sentinellaw34.MealyPlayMatches'. -/
def mealyPlayMatchesCard : Claim7 := { stood := { row := mealyPlayMatchesRow, standIns := [], harness := (true, "8f29363363e7e3f60b588ba9987ca75bc114b837e402e67eb701aefd772f4ece"), looks := false }, kinds := [], alts := [], laidByText := true, laidKinds := [.data, .data, .data], laidTests := true, laidLooks := .later }
def MealyPlayMatchesCardSaid : Prop := Claim7.holds Tryd.pinned (.plain (OpenSpec.ofChange mealyPlayMatchesSpec)) mealyPlayMatchesCard

/-- THE TIED CARD OF 'sentinellaw34.MealyFormsMatch'. -/
def mealyFormsMatchCard : Claim7 := { stood := { row := mealyFormsMatchRow, standIns := [], harness := (true, "8f29363363e7e3f60b588ba9987ca75bc114b837e402e67eb701aefd772f4ece"), looks := false }, kinds := [], alts := [], laidByText := true, laidKinds := [.data, .data, .data], laidTests := true, laidLooks := .later }
def MealyFormsMatchCardSaid : Prop := Claim7.holds Tryd.pinned (.plain (OpenSpec.ofChange mealyFormsMatchSpec)) mealyFormsMatchCard

/-- THE TIED CARD OF 'sentinellaw34.MealyMinimal'. -/
def mealyMinimalCard : Claim7 := { stood := { row := mealyMinimalRow, standIns := [], harness := (true, "8f29363363e7e3f60b588ba9987ca75bc114b837e402e67eb701aefd772f4ece"), looks := false }, kinds := [], alts := [], laidByText := true, laidKinds := [.data, .data, .data], laidTests := true, laidLooks := .later }
def MealyMinimalCardSaid : Prop := Claim7.holds Tryd.pinned (.plain (OpenSpec.ofChange mealyMinimalSpec)) mealyMinimalCard

/-- THE TIED CARD OF 'sentinellaw34.MealyEqual'. -/
def mealyEqualCard : Claim7 := { stood := { row := mealyEqualRow, standIns := [], harness := (true, "8f29363363e7e3f60b588ba9987ca75bc114b837e402e67eb701aefd772f4ece"), looks := false }, kinds := [], alts := [], laidByText := true, laidKinds := [.data, .data, .data], laidTests := true, laidLooks := .later }
def MealyEqualCardSaid : Prop := Claim7.holds Tryd.pinned (.plain (OpenSpec.ofChange mealyEqualSpec)) mealyEqualCard

/-- THE TIED CARD OF 'sentinellaw34.MealyExamples'. -/
def mealyExamplesCard : Claim7 := { stood := { row := mealyExamplesRow, standIns := [], harness := (true, "8f29363363e7e3f60b588ba9987ca75bc114b837e402e67eb701aefd772f4ece"), looks := false }, kinds := [], alts := [], laidByText := true, laidKinds := [.data, .data, .data], laidTests := true, laidLooks := .later }
def MealyExamplesCardSaid : Prop := Claim7.holds Tryd.pinned (.plain (OpenSpec.ofChange mealyExamplesSpec)) mealyExamplesCard

/-- THE TIED CARD OF 'sentinellaw34.MealyPlays'. -/
def mealyPlaysCard : Claim7 := { stood := { row := mealyPlaysRow, standIns := [], harness := (true, "8f29363363e7e3f60b588ba9987ca75bc114b837e402e67eb701aefd772f4ece"), looks := false }, kinds := [], alts := [], laidByText := true, laidKinds := [.data, .data, .data], laidTests := true, laidLooks := .later }
def MealyPlaysCardSaid : Prop := Claim7.holds Tryd.pinned (.plain (OpenSpec.ofChange mealyPlaysSpec)) mealyPlaysCard

/-- THE TIED CARD OF 'sentinellaw34.MealyRuns'. -/
def mealyRunsCard : Claim7 := { stood := { row := mealyRunsRow, standIns := [], harness := (true, "8f29363363e7e3f60b588ba9987ca75bc114b837e402e67eb701aefd772f4ece"), looks := false }, kinds := [], alts := [], laidByText := true, laidKinds := [.data, .data, .data], laidTests := true, laidLooks := .later }
def MealyRunsCardSaid : Prop := Claim7.holds Tryd.pinned (.plain (OpenSpec.ofChange mealyRunsSpec)) mealyRunsCard

/-- THE SECOND FORM's CARD OF 'sentinellaw34.MealyMatches'. -/
def mealyMatchesUptoCard : Claim7 := { stood := { row := mealyMatchesUptoRow, standIns := [], harness := (true, "8f29363363e7e3f60b588ba9987ca75bc114b837e402e67eb701aefd772f4ece"), looks := false }, kinds := [], alts := [], laidByText := true, laidKinds := [.data, .data, .data], laidTests := true, laidLooks := .later }
def MealyMatchesUptoCardSaid : Prop := Claim7.holds Tryd.pinned (.plain (OpenSpec.upto mealyMatchesSpec)) mealyMatchesUptoCard

/-- THE SECOND FORM's CARD OF 'sentinellaw34.MealyPlayMatches'. -/
def mealyPlayMatchesUptoCard : Claim7 := { stood := { row := mealyPlayMatchesUptoRow, standIns := [], harness := (true, "8f29363363e7e3f60b588ba9987ca75bc114b837e402e67eb701aefd772f4ece"), looks := false }, kinds := [], alts := [], laidByText := true, laidKinds := [.data, .data, .data], laidTests := true, laidLooks := .later }
def MealyPlayMatchesUptoCardSaid : Prop := Claim7.holds Tryd.pinned (.plain (OpenSpec.upto mealyPlayMatchesSpec)) mealyPlayMatchesUptoCard

/-- THE SECOND FORM's CARD OF 'sentinellaw34.MealyFormsMatch'. -/
def mealyFormsMatchUptoCard : Claim7 := { stood := { row := mealyFormsMatchUptoRow, standIns := [], harness := (true, "8f29363363e7e3f60b588ba9987ca75bc114b837e402e67eb701aefd772f4ece"), looks := false }, kinds := [], alts := [], laidByText := true, laidKinds := [.data, .data, .data], laidTests := true, laidLooks := .later }
def MealyFormsMatchUptoCardSaid : Prop := Claim7.holds Tryd.pinned (.plain (OpenSpec.upto mealyFormsMatchSpec)) mealyFormsMatchUptoCard

/-- THE SECOND FORM's CARD OF 'sentinellaw34.MealyMinimal'. -/
def mealyMinimalUptoCard : Claim7 := { stood := { row := mealyMinimalUptoRow, standIns := [], harness := (true, "8f29363363e7e3f60b588ba9987ca75bc114b837e402e67eb701aefd772f4ece"), looks := false }, kinds := [], alts := [], laidByText := true, laidKinds := [.data, .data, .data], laidTests := true, laidLooks := .later }
def MealyMinimalUptoCardSaid : Prop := Claim7.holds Tryd.pinned (.plain (OpenSpec.upto mealyMinimalSpec)) mealyMinimalUptoCard

/-- THE SECOND FORM's CARD OF 'sentinellaw34.MealyEqual'. -/
def mealyEqualUptoCard : Claim7 := { stood := { row := mealyEqualUptoRow, standIns := [], harness := (true, "8f29363363e7e3f60b588ba9987ca75bc114b837e402e67eb701aefd772f4ece"), looks := false }, kinds := [], alts := [], laidByText := true, laidKinds := [.data, .data, .data], laidTests := true, laidLooks := .later }
def MealyEqualUptoCardSaid : Prop := Claim7.holds Tryd.pinned (.plain (OpenSpec.upto mealyEqualSpec)) mealyEqualUptoCard

/-- THE SECOND FORM's CARD OF 'sentinellaw34.MealyExamples'. -/
def mealyExamplesUptoCard : Claim7 := { stood := { row := mealyExamplesUptoRow, standIns := [], harness := (true, "8f29363363e7e3f60b588ba9987ca75bc114b837e402e67eb701aefd772f4ece"), looks := false }, kinds := [], alts := [], laidByText := true, laidKinds := [.data, .data, .data], laidTests := true, laidLooks := .later }
def MealyExamplesUptoCardSaid : Prop := Claim7.holds Tryd.pinned (.plain (OpenSpec.upto mealyExamplesSpec)) mealyExamplesUptoCard

/-- THE SECOND FORM's CARD OF 'sentinellaw34.MealyPlays'. -/
def mealyPlaysUptoCard : Claim7 := { stood := { row := mealyPlaysUptoRow, standIns := [], harness := (true, "8f29363363e7e3f60b588ba9987ca75bc114b837e402e67eb701aefd772f4ece"), looks := false }, kinds := [], alts := [], laidByText := true, laidKinds := [.data, .data, .data], laidTests := true, laidLooks := .later }
def MealyPlaysUptoCardSaid : Prop := Claim7.holds Tryd.pinned (.plain (OpenSpec.upto mealyPlaysSpec)) mealyPlaysUptoCard

/-- THE SECOND FORM's CARD OF 'sentinellaw34.MealyRuns'. -/
def mealyRunsUptoCard : Claim7 := { stood := { row := mealyRunsUptoRow, standIns := [], harness := (true, "8f29363363e7e3f60b588ba9987ca75bc114b837e402e67eb701aefd772f4ece"), looks := false }, kinds := [], alts := [], laidByText := true, laidKinds := [.data, .data, .data], laidTests := true, laidLooks := .later }
def MealyRunsUptoCardSaid : Prop := Claim7.holds Tryd.pinned (.plain (OpenSpec.upto mealyRunsSpec)) mealyRunsUptoCard
end Rows
end Go.Proofs.YtkpbekcgigigkaaDoor

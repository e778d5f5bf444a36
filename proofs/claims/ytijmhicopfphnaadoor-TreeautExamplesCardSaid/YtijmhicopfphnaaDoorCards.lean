/-
  DERIVED. GIVEN WITH THE SEED: THE CARDS: each row of YtijmhicopfphnaaDoorRows.lean that lists a variable, with what it lists TIED to the program's text (the seventh form; the later family's looks); each row that meets fmt, with fmt's text TOLD by the authors' own Lean function (tested against real Go, not proved from fmt's source: count such statements apart). THE CARD IS WHAT COUNTS. Prove the row's statement (the work); the ties are given (YtijmhicopfphnaaDoorTie.lean); close each card by the builder's one call (the guide's Derived/Test/ToyasCard.lean, 'card_holds'). Laid BY PROGRAM, IN A SANDBOX (cutbox-door.mjs). By AI agents, Wed Nov 11 2026. No macro, syntax, notation, axiom, sorry.
-/
import Derived.Test.YtijmhicopfphnaaDoorRows
import GoSem.ClaimSeven
namespace Go.Proofs.YtijmhicopfphnaaDoor
namespace Rows

/-- THE TIED CARD OF 'sentinellaw18.TreeautMatches'. -/
def treeautMatchesCard : Claim7 := { stood := { row := treeautMatchesRow, standIns := [], harness := (true, "d5f40ec9953343fff21912b0a4d02aa7b8904d070377a1d3ff130fb2d6a59821"), looks := false }, kinds := [], alts := [], laidByText := true, laidKinds := [.data, .pinned], laidTests := true, laidLooks := .later }
def TreeautMatchesCardSaid : Prop := Claim7.holds Tryd.pinned (.plain (OpenSpec.ofChange treeautMatchesSpec)) treeautMatchesCard

/-- THE TIED CARD OF 'sentinellaw18.TreeautUnionMatches'. -/
def treeautUnionMatchesCard : Claim7 := { stood := { row := treeautUnionMatchesRow, standIns := [], harness := (true, "d5f40ec9953343fff21912b0a4d02aa7b8904d070377a1d3ff130fb2d6a59821"), looks := false }, kinds := [], alts := [], laidByText := true, laidKinds := [.data, .pinned], laidTests := true, laidLooks := .later }
def TreeautUnionMatchesCardSaid : Prop := Claim7.holds Tryd.pinned (.plain (OpenSpec.ofChange treeautUnionMatchesSpec)) treeautUnionMatchesCard

/-- THE TIED CARD OF 'sentinellaw18.TreeautExamples'. -/
def treeautExamplesCard : Claim7 := { stood := { row := treeautExamplesRow, standIns := [], harness := (true, "d5f40ec9953343fff21912b0a4d02aa7b8904d070377a1d3ff130fb2d6a59821"), looks := false }, kinds := [], alts := [], laidByText := true, laidKinds := [.data, .pinned], laidTests := true, laidLooks := .later }
def TreeautExamplesCardSaid : Prop := Claim7.holds Tryd.pinned (.plain (OpenSpec.ofChange treeautExamplesSpec)) treeautExamplesCard

/-- THE TIED CARD OF 'sentinellaw18.TreeautUnites'. -/
def treeautUnitesCard : Claim7 := { stood := { row := treeautUnitesRow, standIns := [], harness := (true, "d5f40ec9953343fff21912b0a4d02aa7b8904d070377a1d3ff130fb2d6a59821"), looks := false }, kinds := [], alts := [], laidByText := true, laidKinds := [.data, .pinned], laidTests := true, laidLooks := .later }
def TreeautUnitesCardSaid : Prop := Claim7.holds Tryd.pinned (.plain (OpenSpec.ofChange treeautUnitesSpec)) treeautUnitesCard

/-- THE TIED CARD OF 'sentinellaw18.TreeautGrows'. -/
def treeautGrowsCard : Claim7 := { stood := { row := treeautGrowsRow, standIns := [], harness := (true, "d5f40ec9953343fff21912b0a4d02aa7b8904d070377a1d3ff130fb2d6a59821"), looks := false }, kinds := [], alts := [], laidByText := true, laidKinds := [.data, .pinned], laidTests := true, laidLooks := .later }
def TreeautGrowsCardSaid : Prop := Claim7.holds Tryd.pinned (.plain (OpenSpec.ofChange treeautGrowsSpec)) treeautGrowsCard

/-- THE TIED CARD OF 'sentinellaw18.TreeautReaches'. -/
def treeautReachesCard : Claim7 := { stood := { row := treeautReachesRow, standIns := [], harness := (true, "d5f40ec9953343fff21912b0a4d02aa7b8904d070377a1d3ff130fb2d6a59821"), looks := false }, kinds := [], alts := [], laidByText := true, laidKinds := [.data, .pinned], laidTests := true, laidLooks := .later }
def TreeautReachesCardSaid : Prop := Claim7.holds Tryd.pinned (.plain (OpenSpec.ofChange treeautReachesSpec)) treeautReachesCard

/-- THE TIED CARD OF 'sentinellaw18.TreeautTrims'. -/
def treeautTrimsCard : Claim7 := { stood := { row := treeautTrimsRow, standIns := [], harness := (true, "d5f40ec9953343fff21912b0a4d02aa7b8904d070377a1d3ff130fb2d6a59821"), looks := false }, kinds := [], alts := [], laidByText := true, laidKinds := [.data, .pinned], laidTests := true, laidLooks := .later }
def TreeautTrimsCardSaid : Prop := Claim7.holds Tryd.pinned (.plain (OpenSpec.ofChange treeautTrimsSpec)) treeautTrimsCard

/-- THE TIED CARD OF 'sentinellaw18.TreeautJoins'. -/
def treeautJoinsCard : Claim7 := { stood := { row := treeautJoinsRow, standIns := [], harness := (true, "d5f40ec9953343fff21912b0a4d02aa7b8904d070377a1d3ff130fb2d6a59821"), looks := false }, kinds := [], alts := [], laidByText := true, laidKinds := [.data, .pinned], laidTests := true, laidLooks := .later }
def TreeautJoinsCardSaid : Prop := Claim7.holds Tryd.pinned (.plain (OpenSpec.ofChange treeautJoinsSpec)) treeautJoinsCard

/-- THE TIED CARD OF 'sentinellaw18.TreeautMirrors'. -/
def treeautMirrorsCard : Claim7 := { stood := { row := treeautMirrorsRow, standIns := [], harness := (true, "d5f40ec9953343fff21912b0a4d02aa7b8904d070377a1d3ff130fb2d6a59821"), looks := false }, kinds := [], alts := [], laidByText := true, laidKinds := [.data, .pinned], laidTests := true, laidLooks := .later }
def TreeautMirrorsCardSaid : Prop := Claim7.holds Tryd.pinned (.plain (OpenSpec.ofChange treeautMirrorsSpec)) treeautMirrorsCard

/-- THE SECOND FORM's CARD OF 'sentinellaw18.TreeautMatches'. -/
def treeautMatchesUptoCard : Claim7 := { stood := { row := treeautMatchesUptoRow, standIns := [], harness := (true, "d5f40ec9953343fff21912b0a4d02aa7b8904d070377a1d3ff130fb2d6a59821"), looks := false }, kinds := [], alts := [], laidByText := true, laidKinds := [.data, .pinned], laidTests := true, laidLooks := .later }
def TreeautMatchesUptoCardSaid : Prop := Claim7.holds Tryd.pinned (.plain (OpenSpec.upto treeautMatchesSpec)) treeautMatchesUptoCard

/-- THE SECOND FORM's CARD OF 'sentinellaw18.TreeautUnionMatches'. -/
def treeautUnionMatchesUptoCard : Claim7 := { stood := { row := treeautUnionMatchesUptoRow, standIns := [], harness := (true, "d5f40ec9953343fff21912b0a4d02aa7b8904d070377a1d3ff130fb2d6a59821"), looks := false }, kinds := [], alts := [], laidByText := true, laidKinds := [.data, .pinned], laidTests := true, laidLooks := .later }
def TreeautUnionMatchesUptoCardSaid : Prop := Claim7.holds Tryd.pinned (.plain (OpenSpec.upto treeautUnionMatchesSpec)) treeautUnionMatchesUptoCard

/-- THE SECOND FORM's CARD OF 'sentinellaw18.TreeautExamples'. -/
def treeautExamplesUptoCard : Claim7 := { stood := { row := treeautExamplesUptoRow, standIns := [], harness := (true, "d5f40ec9953343fff21912b0a4d02aa7b8904d070377a1d3ff130fb2d6a59821"), looks := false }, kinds := [], alts := [], laidByText := true, laidKinds := [.data, .pinned], laidTests := true, laidLooks := .later }
def TreeautExamplesUptoCardSaid : Prop := Claim7.holds Tryd.pinned (.plain (OpenSpec.upto treeautExamplesSpec)) treeautExamplesUptoCard

/-- THE SECOND FORM's CARD OF 'sentinellaw18.TreeautUnites'. -/
def treeautUnitesUptoCard : Claim7 := { stood := { row := treeautUnitesUptoRow, standIns := [], harness := (true, "d5f40ec9953343fff21912b0a4d02aa7b8904d070377a1d3ff130fb2d6a59821"), looks := false }, kinds := [], alts := [], laidByText := true, laidKinds := [.data, .pinned], laidTests := true, laidLooks := .later }
def TreeautUnitesUptoCardSaid : Prop := Claim7.holds Tryd.pinned (.plain (OpenSpec.upto treeautUnitesSpec)) treeautUnitesUptoCard

/-- THE SECOND FORM's CARD OF 'sentinellaw18.TreeautGrows'. -/
def treeautGrowsUptoCard : Claim7 := { stood := { row := treeautGrowsUptoRow, standIns := [], harness := (true, "d5f40ec9953343fff21912b0a4d02aa7b8904d070377a1d3ff130fb2d6a59821"), looks := false }, kinds := [], alts := [], laidByText := true, laidKinds := [.data, .pinned], laidTests := true, laidLooks := .later }
def TreeautGrowsUptoCardSaid : Prop := Claim7.holds Tryd.pinned (.plain (OpenSpec.upto treeautGrowsSpec)) treeautGrowsUptoCard

/-- THE SECOND FORM's CARD OF 'sentinellaw18.TreeautReaches'. -/
def treeautReachesUptoCard : Claim7 := { stood := { row := treeautReachesUptoRow, standIns := [], harness := (true, "d5f40ec9953343fff21912b0a4d02aa7b8904d070377a1d3ff130fb2d6a59821"), looks := false }, kinds := [], alts := [], laidByText := true, laidKinds := [.data, .pinned], laidTests := true, laidLooks := .later }
def TreeautReachesUptoCardSaid : Prop := Claim7.holds Tryd.pinned (.plain (OpenSpec.upto treeautReachesSpec)) treeautReachesUptoCard

/-- THE SECOND FORM's CARD OF 'sentinellaw18.TreeautTrims'. -/
def treeautTrimsUptoCard : Claim7 := { stood := { row := treeautTrimsUptoRow, standIns := [], harness := (true, "d5f40ec9953343fff21912b0a4d02aa7b8904d070377a1d3ff130fb2d6a59821"), looks := false }, kinds := [], alts := [], laidByText := true, laidKinds := [.data, .pinned], laidTests := true, laidLooks := .later }
def TreeautTrimsUptoCardSaid : Prop := Claim7.holds Tryd.pinned (.plain (OpenSpec.upto treeautTrimsSpec)) treeautTrimsUptoCard

/-- THE SECOND FORM's CARD OF 'sentinellaw18.TreeautJoins'. -/
def treeautJoinsUptoCard : Claim7 := { stood := { row := treeautJoinsUptoRow, standIns := [], harness := (true, "d5f40ec9953343fff21912b0a4d02aa7b8904d070377a1d3ff130fb2d6a59821"), looks := false }, kinds := [], alts := [], laidByText := true, laidKinds := [.data, .pinned], laidTests := true, laidLooks := .later }
def TreeautJoinsUptoCardSaid : Prop := Claim7.holds Tryd.pinned (.plain (OpenSpec.upto treeautJoinsSpec)) treeautJoinsUptoCard

/-- THE SECOND FORM's CARD OF 'sentinellaw18.TreeautMirrors'. -/
def treeautMirrorsUptoCard : Claim7 := { stood := { row := treeautMirrorsUptoRow, standIns := [], harness := (true, "d5f40ec9953343fff21912b0a4d02aa7b8904d070377a1d3ff130fb2d6a59821"), looks := false }, kinds := [], alts := [], laidByText := true, laidKinds := [.data, .pinned], laidTests := true, laidLooks := .later }
def TreeautMirrorsUptoCardSaid : Prop := Claim7.holds Tryd.pinned (.plain (OpenSpec.upto treeautMirrorsSpec)) treeautMirrorsUptoCard
end Rows
end Go.Proofs.YtijmhicopfphnaaDoor

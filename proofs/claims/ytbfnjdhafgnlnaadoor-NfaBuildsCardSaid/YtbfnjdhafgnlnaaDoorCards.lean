/-
  DERIVED. GIVEN WITH THE SEED: THE CARDS: each row of YtbfnjdhafgnlnaaDoorRows.lean that lists a variable, with what it lists TIED to the program's text (the seventh form; the later family's looks); each row that meets fmt, with fmt's text TOLD by the authors' own Lean function (tested against real Go, not proved from fmt's source: count such statements apart). THE CARD IS WHAT COUNTS. Prove the row's statement (the work); the ties are given (YtbfnjdhafgnlnaaDoorTie.lean); close each card by the builder's one call (the guide's Derived/Test/ToyasCard.lean, 'card_holds'). Laid BY PROGRAM, IN A SANDBOX (cutbox-door.mjs). By AI agents, Wed Nov 11 2026. No macro, syntax, notation, axiom, sorry.
-/
import Derived.Test.YtbfnjdhafgnlnaaDoorRows
import GoSem.ClaimSeven
namespace Go.Proofs.YtbfnjdhafgnlnaaDoor
namespace Rows

/-- THE TIED CARD OF 'sentinellaw06.NfaBuilds'. -/
def nfaBuildsCard : Claim7 := { stood := { row := nfaBuildsRow, standIns := [], harness := (true, "31c9a0897527a5f9554ddc574be7821f830a9df2d1b19ede39914c7693164103"), looks := false }, kinds := [], alts := [], laidByText := true, laidKinds := [.data], laidTests := true, laidLooks := .later }
def NfaBuildsCardSaid : Prop := Claim7.holds Tryd.pinned (.plain (OpenSpec.ofChange nfaBuildsSpec)) nfaBuildsCard

/-- THE TIED CARD OF 'sentinellaw06.NfaExamples'. -/
def nfaExamplesCard : Claim7 := { stood := { row := nfaExamplesRow, standIns := [], harness := (true, "31c9a0897527a5f9554ddc574be7821f830a9df2d1b19ede39914c7693164103"), looks := false }, kinds := [], alts := [], laidByText := true, laidKinds := [.data], laidTests := true, laidLooks := .later }
def NfaExamplesCardSaid : Prop := Claim7.holds Tryd.pinned (.plain (OpenSpec.ofChange nfaExamplesSpec)) nfaExamplesCard

/-- THE TIED CARD OF 'sentinellaw06.NfaTrims'. -/
def nfaTrimsCard : Claim7 := { stood := { row := nfaTrimsRow, standIns := [], harness := (true, "31c9a0897527a5f9554ddc574be7821f830a9df2d1b19ede39914c7693164103"), looks := false }, kinds := [], alts := [], laidByText := true, laidKinds := [.data], laidTests := true, laidLooks := .later }
def NfaTrimsCardSaid : Prop := Claim7.holds Tryd.pinned (.plain (OpenSpec.ofChange nfaTrimsSpec)) nfaTrimsCard

/-- THE SECOND FORM's CARD OF 'sentinellaw06.NfaBuilds'. -/
def nfaBuildsUptoCard : Claim7 := { stood := { row := nfaBuildsUptoRow, standIns := [], harness := (true, "31c9a0897527a5f9554ddc574be7821f830a9df2d1b19ede39914c7693164103"), looks := false }, kinds := [], alts := [], laidByText := true, laidKinds := [.data], laidTests := true, laidLooks := .later }
def NfaBuildsUptoCardSaid : Prop := Claim7.holds Tryd.pinned (.plain (OpenSpec.upto nfaBuildsSpec)) nfaBuildsUptoCard

/-- THE SECOND FORM's CARD OF 'sentinellaw06.NfaExamples'. -/
def nfaExamplesUptoCard : Claim7 := { stood := { row := nfaExamplesUptoRow, standIns := [], harness := (true, "31c9a0897527a5f9554ddc574be7821f830a9df2d1b19ede39914c7693164103"), looks := false }, kinds := [], alts := [], laidByText := true, laidKinds := [.data], laidTests := true, laidLooks := .later }
def NfaExamplesUptoCardSaid : Prop := Claim7.holds Tryd.pinned (.plain (OpenSpec.upto nfaExamplesSpec)) nfaExamplesUptoCard

/-- THE SECOND FORM's CARD OF 'sentinellaw06.NfaTrims'. -/
def nfaTrimsUptoCard : Claim7 := { stood := { row := nfaTrimsUptoRow, standIns := [], harness := (true, "31c9a0897527a5f9554ddc574be7821f830a9df2d1b19ede39914c7693164103"), looks := false }, kinds := [], alts := [], laidByText := true, laidKinds := [.data], laidTests := true, laidLooks := .later }
def NfaTrimsUptoCardSaid : Prop := Claim7.holds Tryd.pinned (.plain (OpenSpec.upto nfaTrimsSpec)) nfaTrimsUptoCard
end Rows
end Go.Proofs.YtbfnjdhafgnlnaaDoor

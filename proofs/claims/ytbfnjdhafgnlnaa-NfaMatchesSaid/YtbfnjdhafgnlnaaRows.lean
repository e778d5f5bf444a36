/-
  No cell of these rows narrows 'for every input' (looked for: loops, veiled, ifaces, maps, wideKeys, modest, calm, conditions, laid).
  DERIVED. THE GIVEN ROWS OF THIS SEAT. 5 by the template 'for every input the law returns true; each argument reads behind the call as it read before'; 0 by the template 'total and deterministic' (their statements: YtbfnjdhafgnlnaaTotals.lean).
  GIVEN WITH THE SEED: the statements are not yours to turn. If you find one false, say at which input.
  Laid BY PROGRAM, IN A SANDBOX (cutbox-rows.mjs): the forced cells as the released guide's own fill.sh prints them over the translation ceeaaba6319b9f60… (all of the seat's roots in one cut). By AI agents, Wed Nov 11 2026. No macro, syntax, notation, axiom, sorry.
-/
import Derived.Test.YtbfnjdhafgnlnaaChecked
import GoSem.Claim
import GoSem.ClaimJoined
import GoSem.ClaimMapViews
import Derived.JoinedTies
import Derived.KernelRfl
namespace Go.Proofs.Ytbfnjdhafgnlnaa
/- THE CELL 'sum', in the pinned program and in every row, IS THE sha256 OF THE DUMP (.gsa) THAT YtbfnjdhafgnlnaaProg.lean LOADS. Nothing in Lean hashes anything: it is a label: what it is worth is what the hold of that sum in a sandbox is worth. -/
noncomputable def Try.pinned : Pinned := { name := "ytbfnjdhafgnlnaa", sum := "ceeaaba6319b9f60f598e33a0c845cbac0da396d5ad45c06e51cbddd9ef7af4f", checked := Try.checked }
namespace Rows
def none {H : Type} : Left H := { results := [], args := [] }

/-- 'sentinellaw06.NfaReverses': WHATEVER THE INPUT: true; the input reads as it did. -/
def nfaReversesSpec : ChangeSpec := { name := "nfaReverses", fn := fun _ => fun
  | [d1, d2] => { results := [.lit (.bool true)], args := [d1, d2] }
  | _ => none }
def nfaReversesRow : OpenClaim := { program := "ytbfnjdhafgnlnaa", sum := "ceeaaba6319b9f60f598e33a0c845cbac0da396d5ad45c06e51cbddd9ef7af4f", func := "sentinel/sentinellaw06.NfaReverses", spec := "nfaReverses", unfollowed := true, recurses := true, apart := false }
def NfaReversesSaid : Prop := nfaReversesRow.holds Try.pinned (OpenSpec.ofChange nfaReversesSpec)

/-- ITS FALSE NEIGHBOUR: 'it returns false'. Refute it at one input. -/
def nfaReversesWrong : ChangeSpec := { name := "nfaReverses", fn := fun _ => fun
  | [d1, d2] => { results := [.lit (.bool false)], args := [d1, d2] }
  | _ => none }
def NfaReversesWrongFalsely : Prop := nfaReversesRow.holds Try.pinned (OpenSpec.ofChange nfaReversesWrong)

/-- 'sentinellaw06.NfaMatches': WHATEVER THE INPUT: true; the input reads as it did. -/
def nfaMatchesSpec : ChangeSpec := { name := "nfaMatches", fn := fun _ => fun
  | [d1, d2, d3, d4] => { results := [.lit (.bool true)], args := [d1, d2, d3, d4] }
  | _ => none }
def nfaMatchesRow : OpenClaim := { program := "ytbfnjdhafgnlnaa", sum := "ceeaaba6319b9f60f598e33a0c845cbac0da396d5ad45c06e51cbddd9ef7af4f", func := "sentinel/sentinellaw06.NfaMatches", spec := "nfaMatches", unfollowed := true, recurses := true, apart := false }
def NfaMatchesSaid : Prop := nfaMatchesRow.holds Try.pinned (OpenSpec.ofChange nfaMatchesSpec)

/-- ITS FALSE NEIGHBOUR: 'it returns false'. Refute it at one input. -/
def nfaMatchesWrong : ChangeSpec := { name := "nfaMatches", fn := fun _ => fun
  | [d1, d2, d3, d4] => { results := [.lit (.bool false)], args := [d1, d2, d3, d4] }
  | _ => none }
def NfaMatchesWrongFalsely : Prop := nfaMatchesRow.holds Try.pinned (OpenSpec.ofChange nfaMatchesWrong)

/-- 'sentinellaw06.NfaSteps': WHATEVER THE INPUT: true; the input reads as it did. -/
def nfaStepsSpec : ChangeSpec := { name := "nfaSteps", fn := fun _ => fun
  | [d1, d2, d3, d4, d5, d6] => { results := [.lit (.bool true)], args := [d1, d2, d3, d4, d5, d6] }
  | _ => none }
def nfaStepsRow : OpenClaim := { program := "ytbfnjdhafgnlnaa", sum := "ceeaaba6319b9f60f598e33a0c845cbac0da396d5ad45c06e51cbddd9ef7af4f", func := "sentinel/sentinellaw06.NfaSteps", spec := "nfaSteps", unfollowed := true, recurses := true, apart := false }
def NfaStepsSaid : Prop := nfaStepsRow.holds Try.pinned (OpenSpec.ofChange nfaStepsSpec)

/-- ITS FALSE NEIGHBOUR: 'it returns false'. Refute it at one input. -/
def nfaStepsWrong : ChangeSpec := { name := "nfaSteps", fn := fun _ => fun
  | [d1, d2, d3, d4, d5, d6] => { results := [.lit (.bool false)], args := [d1, d2, d3, d4, d5, d6] }
  | _ => none }
def NfaStepsWrongFalsely : Prop := nfaStepsRow.holds Try.pinned (OpenSpec.ofChange nfaStepsWrong)

/-- 'sentinellaw06.NfaUnions': WHATEVER THE INPUT: true; the input reads as it did. -/
def nfaUnionsSpec : ChangeSpec := { name := "nfaUnions", fn := fun _ => fun
  | [d1, d2, d3] => { results := [.lit (.bool true)], args := [d1, d2, d3] }
  | _ => none }
def nfaUnionsRow : OpenClaim := { program := "ytbfnjdhafgnlnaa", sum := "ceeaaba6319b9f60f598e33a0c845cbac0da396d5ad45c06e51cbddd9ef7af4f", func := "sentinel/sentinellaw06.NfaUnions", spec := "nfaUnions", unfollowed := true, recurses := true, apart := false }
def NfaUnionsSaid : Prop := nfaUnionsRow.holds Try.pinned (OpenSpec.ofChange nfaUnionsSpec)

/-- ITS FALSE NEIGHBOUR: 'it returns false'. Refute it at one input. -/
def nfaUnionsWrong : ChangeSpec := { name := "nfaUnions", fn := fun _ => fun
  | [d1, d2, d3] => { results := [.lit (.bool false)], args := [d1, d2, d3] }
  | _ => none }
def NfaUnionsWrongFalsely : Prop := nfaUnionsRow.holds Try.pinned (OpenSpec.ofChange nfaUnionsWrong)

/-- 'sentinellaw06.NfaReaches': WHATEVER THE INPUT: true; the input reads as it did. -/
def nfaReachesSpec : ChangeSpec := { name := "nfaReaches", fn := fun _ => fun
  | [d] => { results := [.lit (.bool true)], args := [d] }
  | _ => none }
def nfaReachesRow : OpenClaim := { program := "ytbfnjdhafgnlnaa", sum := "ceeaaba6319b9f60f598e33a0c845cbac0da396d5ad45c06e51cbddd9ef7af4f", func := "sentinel/sentinellaw06.NfaReaches", spec := "nfaReaches", unfollowed := true, recurses := true, apart := false }
def NfaReachesSaid : Prop := nfaReachesRow.holds Try.pinned (OpenSpec.ofChange nfaReachesSpec)

/-- ITS FALSE NEIGHBOUR: 'it returns false'. Refute it at one input. -/
def nfaReachesWrong : ChangeSpec := { name := "nfaReaches", fn := fun _ => fun
  | [d] => { results := [.lit (.bool false)], args := [d] }
  | _ => none }
def NfaReachesWrongFalsely : Prop := nfaReachesRow.holds Try.pinned (OpenSpec.ofChange nfaReachesWrong)

/- THE SECOND FORM. 'bulk': how many values and letters a reading holds, each counted each time it is reached (what is shared counts as often as it is met; a slice's spare places count too). A statement '..UptoSaid' is the law's where the arguments, and the package variables that the reading takes, are together of bulk at most 1048576: NARROWER than '..Said'. Prove '..Said' where nothing that the law and all that it calls make is longer than what came in: it says more and counts as full. Else prove '..UptoSaid'. A law counts once. -/
mutual
def uptoBulk {H : Type} : DataW H → Nat
  | .lit (.string bytes) => bytes.length + 1
  | .lit _ => 1
  | .nil => 1
  | .ptr d => uptoBulk d + 1
  | .slice elems spare => uptoBulkAll elems + uptoBulkAll spare + 1
  | .agg parts => uptoBulkAll parts + 1
  | .iface _ d => uptoBulk d + 1
  | .map entries => uptoBulkEntries entries + 1
  | .held _ => 1
def uptoBulkAll {H : Type} : List (DataW H) → Nat
  | [] => 0
  | d :: r => uptoBulk d + uptoBulkAll r
def uptoBulkEntries {H : Type} : List (Lit × DataW H) → Nat
  | [] => 0
  | x :: r => uptoBulkEntry x + uptoBulkEntries r
def uptoBulkEntry {H : Type} : Lit × DataW H → Nat
  | (.string bytes, d) => bytes.length + uptoBulk d + 1
  | (_, d) => uptoBulk d + 1
 end
def uptoSmall : (H : Type) → List (DataW H) → Bool := fun _ ds => decide (uptoBulkAll ds ≤ 1048576)
def OpenSpec.upto (s : _root_.Go.ChangeSpec) : _root_.Go.OpenSpec := { _root_.Go.OpenSpec.ofChange s with cond := some uptoSmall }

/-- 'sentinellaw06.NfaReverses', WHERE WHAT IT READS IS OF BULK AT MOST 1048576: true; the input reads as it did. -/
def nfaReversesUptoRow : OpenClaim := { program := "ytbfnjdhafgnlnaa", sum := "ceeaaba6319b9f60f598e33a0c845cbac0da396d5ad45c06e51cbddd9ef7af4f", func := "sentinel/sentinellaw06.NfaReverses", spec := "nfaReverses", unfollowed := true, recurses := true, apart := false, narrowed := true }
def NfaReversesUptoSaid : Prop := nfaReversesUptoRow.holds Try.pinned (OpenSpec.upto nfaReversesSpec)

/-- 'sentinellaw06.NfaMatches', WHERE WHAT IT READS IS OF BULK AT MOST 1048576: true; the input reads as it did. -/
def nfaMatchesUptoRow : OpenClaim := { program := "ytbfnjdhafgnlnaa", sum := "ceeaaba6319b9f60f598e33a0c845cbac0da396d5ad45c06e51cbddd9ef7af4f", func := "sentinel/sentinellaw06.NfaMatches", spec := "nfaMatches", unfollowed := true, recurses := true, apart := false, narrowed := true }
def NfaMatchesUptoSaid : Prop := nfaMatchesUptoRow.holds Try.pinned (OpenSpec.upto nfaMatchesSpec)

/-- 'sentinellaw06.NfaSteps', WHERE WHAT IT READS IS OF BULK AT MOST 1048576: true; the input reads as it did. -/
def nfaStepsUptoRow : OpenClaim := { program := "ytbfnjdhafgnlnaa", sum := "ceeaaba6319b9f60f598e33a0c845cbac0da396d5ad45c06e51cbddd9ef7af4f", func := "sentinel/sentinellaw06.NfaSteps", spec := "nfaSteps", unfollowed := true, recurses := true, apart := false, narrowed := true }
def NfaStepsUptoSaid : Prop := nfaStepsUptoRow.holds Try.pinned (OpenSpec.upto nfaStepsSpec)

/-- 'sentinellaw06.NfaUnions', WHERE WHAT IT READS IS OF BULK AT MOST 1048576: true; the input reads as it did. -/
def nfaUnionsUptoRow : OpenClaim := { program := "ytbfnjdhafgnlnaa", sum := "ceeaaba6319b9f60f598e33a0c845cbac0da396d5ad45c06e51cbddd9ef7af4f", func := "sentinel/sentinellaw06.NfaUnions", spec := "nfaUnions", unfollowed := true, recurses := true, apart := false, narrowed := true }
def NfaUnionsUptoSaid : Prop := nfaUnionsUptoRow.holds Try.pinned (OpenSpec.upto nfaUnionsSpec)

/-- 'sentinellaw06.NfaReaches', WHERE WHAT IT READS IS OF BULK AT MOST 1048576: true; the input reads as it did. -/
def nfaReachesUptoRow : OpenClaim := { program := "ytbfnjdhafgnlnaa", sum := "ceeaaba6319b9f60f598e33a0c845cbac0da396d5ad45c06e51cbddd9ef7af4f", func := "sentinel/sentinellaw06.NfaReaches", spec := "nfaReaches", unfollowed := true, recurses := true, apart := false, narrowed := true }
def NfaReachesUptoSaid : Prop := nfaReachesUptoRow.holds Try.pinned (OpenSpec.upto nfaReachesSpec)

end Rows
end Go.Proofs.Ytbfnjdhafgnlnaa

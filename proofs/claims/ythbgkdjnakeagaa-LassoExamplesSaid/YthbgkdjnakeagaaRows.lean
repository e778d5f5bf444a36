/-
  No cell of these rows narrows 'for every input' (looked for: loops, veiled, ifaces, maps, wideKeys, modest, calm, conditions, laid).
  DERIVED. THE GIVEN ROWS OF THIS SEAT. 6 by the template 'for every input the law returns true; each argument reads behind the call as it read before'; 0 by the template 'total and deterministic' (their statements: YthbgkdjnakeagaaTotals.lean).
  GIVEN WITH THE SEED: the statements are not yours to turn. If you find one false, say at which input.
  Laid BY PROGRAM, IN A SANDBOX (cutbox-rows.mjs): the forced cells as the released guide's own fill.sh prints them over the translation 87c0df29f639c0bd… (all of the seat's roots in one cut). By AI agents, Wed Nov 11 2026. No macro, syntax, notation, axiom, sorry.
-/
import Derived.Test.YthbgkdjnakeagaaChecked
import GoSem.Claim
import GoSem.ClaimJoined
import GoSem.ClaimMapViews
import Derived.JoinedTies
import Derived.KernelRfl
namespace Go.Proofs.Ythbgkdjnakeagaa
/- THE CELL 'sum', in the pinned program and in every row, IS THE sha256 OF THE DUMP (.gsa) THAT YthbgkdjnakeagaaProg.lean LOADS. Nothing in Lean hashes anything: it is a label: what it is worth is what the hold of that sum in a sandbox is worth. -/
noncomputable def Try.pinned : Pinned := { name := "ythbgkdjnakeagaa", sum := "87c0df29f639c0bd294b4c93e8550fa3e56e4691a7e932f5f430ec41371cf97c", checked := Try.checked }
namespace Rows
def none {H : Type} : Left H := { results := [], args := [] }

/-- 'sentinellaw22.LassoFormsMatch': WHATEVER THE INPUT: true; the input reads as it did. -/
def lassoFormsMatchSpec : ChangeSpec := { name := "lassoFormsMatch", fn := fun _ => fun
  | [d1, d2, d3, d4] => { results := [.lit (.bool true)], args := [d1, d2, d3, d4] }
  | _ => none }
def lassoFormsMatchRow : OpenClaim := { program := "ythbgkdjnakeagaa", sum := "87c0df29f639c0bd294b4c93e8550fa3e56e4691a7e932f5f430ec41371cf97c", func := "sentinel/sentinellaw22.LassoFormsMatch", spec := "lassoFormsMatch", unfollowed := true, recurses := true, apart := false }
def LassoFormsMatchSaid : Prop := lassoFormsMatchRow.holds Try.pinned (OpenSpec.ofChange lassoFormsMatchSpec)

/-- ITS FALSE NEIGHBOUR: 'it returns false'. Refute it at one input. -/
def lassoFormsMatchWrong : ChangeSpec := { name := "lassoFormsMatch", fn := fun _ => fun
  | [d1, d2, d3, d4] => { results := [.lit (.bool false)], args := [d1, d2, d3, d4] }
  | _ => none }
def LassoFormsMatchWrongFalsely : Prop := lassoFormsMatchRow.holds Try.pinned (OpenSpec.ofChange lassoFormsMatchWrong)

/-- 'sentinellaw22.LassoMatches': WHATEVER THE INPUT: true; the input reads as it did. -/
def lassoMatchesSpec : ChangeSpec := { name := "lassoMatches", fn := fun _ => fun
  | [d1, d2, d3, d4] => { results := [.lit (.bool true)], args := [d1, d2, d3, d4] }
  | _ => none }
def lassoMatchesRow : OpenClaim := { program := "ythbgkdjnakeagaa", sum := "87c0df29f639c0bd294b4c93e8550fa3e56e4691a7e932f5f430ec41371cf97c", func := "sentinel/sentinellaw22.LassoMatches", spec := "lassoMatches", unfollowed := true, recurses := true, apart := false }
def LassoMatchesSaid : Prop := lassoMatchesRow.holds Try.pinned (OpenSpec.ofChange lassoMatchesSpec)

/-- ITS FALSE NEIGHBOUR: 'it returns false'. Refute it at one input. -/
def lassoMatchesWrong : ChangeSpec := { name := "lassoMatches", fn := fun _ => fun
  | [d1, d2, d3, d4] => { results := [.lit (.bool false)], args := [d1, d2, d3, d4] }
  | _ => none }
def LassoMatchesWrongFalsely : Prop := lassoMatchesRow.holds Try.pinned (OpenSpec.ofChange lassoMatchesWrong)

/-- 'sentinellaw22.LassoExamples': WHATEVER THE INPUT: true; the input reads as it did. -/
def lassoExamplesSpec : ChangeSpec := { name := "lassoExamples", fn := fun _ => fun
  | [] => { results := [.lit (.bool true)], args := [] }
  | _ => none }
def lassoExamplesRow : OpenClaim := { program := "ythbgkdjnakeagaa", sum := "87c0df29f639c0bd294b4c93e8550fa3e56e4691a7e932f5f430ec41371cf97c", func := "sentinel/sentinellaw22.LassoExamples", spec := "lassoExamples", unfollowed := true, recurses := true, apart := false }
def LassoExamplesSaid : Prop := lassoExamplesRow.holds Try.pinned (OpenSpec.ofChange lassoExamplesSpec)

/-- ITS FALSE NEIGHBOUR: 'it returns false'. Refute it at one input. -/
def lassoExamplesWrong : ChangeSpec := { name := "lassoExamples", fn := fun _ => fun
  | [] => { results := [.lit (.bool false)], args := [] }
  | _ => none }
def LassoExamplesWrongFalsely : Prop := lassoExamplesRow.holds Try.pinned (OpenSpec.ofChange lassoExamplesWrong)

/-- 'sentinellaw22.LassoOrder': WHATEVER THE INPUT: true; the input reads as it did. -/
def lassoOrderSpec : ChangeSpec := { name := "lassoOrder", fn := fun _ => fun
  | [d1, d2, d3, d4] => { results := [.lit (.bool true)], args := [d1, d2, d3, d4] }
  | _ => none }
def lassoOrderRow : OpenClaim := { program := "ythbgkdjnakeagaa", sum := "87c0df29f639c0bd294b4c93e8550fa3e56e4691a7e932f5f430ec41371cf97c", func := "sentinel/sentinellaw22.LassoOrder", spec := "lassoOrder", unfollowed := true, recurses := true, apart := false }
def LassoOrderSaid : Prop := lassoOrderRow.holds Try.pinned (OpenSpec.ofChange lassoOrderSpec)

/-- ITS FALSE NEIGHBOUR: 'it returns false'. Refute it at one input. -/
def lassoOrderWrong : ChangeSpec := { name := "lassoOrder", fn := fun _ => fun
  | [d1, d2, d3, d4] => { results := [.lit (.bool false)], args := [d1, d2, d3, d4] }
  | _ => none }
def LassoOrderWrongFalsely : Prop := lassoOrderRow.holds Try.pinned (OpenSpec.ofChange lassoOrderWrong)

/-- 'sentinellaw22.LassoMerge': WHATEVER THE INPUT: true; the input reads as it did. -/
def lassoMergeSpec : ChangeSpec := { name := "lassoMerge", fn := fun _ => fun
  | [d1, d2, d3, d4] => { results := [.lit (.bool true)], args := [d1, d2, d3, d4] }
  | _ => none }
def lassoMergeRow : OpenClaim := { program := "ythbgkdjnakeagaa", sum := "87c0df29f639c0bd294b4c93e8550fa3e56e4691a7e932f5f430ec41371cf97c", func := "sentinel/sentinellaw22.LassoMerge", spec := "lassoMerge", unfollowed := true, recurses := true, apart := false }
def LassoMergeSaid : Prop := lassoMergeRow.holds Try.pinned (OpenSpec.ofChange lassoMergeSpec)

/-- ITS FALSE NEIGHBOUR: 'it returns false'. Refute it at one input. -/
def lassoMergeWrong : ChangeSpec := { name := "lassoMerge", fn := fun _ => fun
  | [d1, d2, d3, d4] => { results := [.lit (.bool false)], args := [d1, d2, d3, d4] }
  | _ => none }
def LassoMergeWrongFalsely : Prop := lassoMergeRow.holds Try.pinned (OpenSpec.ofChange lassoMergeWrong)

/-- 'sentinellaw22.LassoSuffix': WHATEVER THE INPUT: true; the input reads as it did. -/
def lassoSuffixSpec : ChangeSpec := { name := "lassoSuffix", fn := fun _ => fun
  | [d1, d2, d3, d4, d5] => { results := [.lit (.bool true)], args := [d1, d2, d3, d4, d5] }
  | _ => none }
def lassoSuffixRow : OpenClaim := { program := "ythbgkdjnakeagaa", sum := "87c0df29f639c0bd294b4c93e8550fa3e56e4691a7e932f5f430ec41371cf97c", func := "sentinel/sentinellaw22.LassoSuffix", spec := "lassoSuffix", unfollowed := true, recurses := true, apart := false }
def LassoSuffixSaid : Prop := lassoSuffixRow.holds Try.pinned (OpenSpec.ofChange lassoSuffixSpec)

/-- ITS FALSE NEIGHBOUR: 'it returns false'. Refute it at one input. -/
def lassoSuffixWrong : ChangeSpec := { name := "lassoSuffix", fn := fun _ => fun
  | [d1, d2, d3, d4, d5] => { results := [.lit (.bool false)], args := [d1, d2, d3, d4, d5] }
  | _ => none }
def LassoSuffixWrongFalsely : Prop := lassoSuffixRow.holds Try.pinned (OpenSpec.ofChange lassoSuffixWrong)

/- THE SECOND FORM. 'bulk': how many values and letters a reading holds, each counted each time it is reached (what is shared counts as often as it is met; a slice's spare places count too). A statement '..UptoSaid' is the law's where the arguments, and the package variables that the reading takes, are together of bulk at most 1048576: NARROWER than '..Said'. Prove '..Said' where nothing that the law and all that it calls make is longer than what came in: it says more and counts as full. Else prove '..UptoSaid'. A law counts once. -/
mutual
def uptoBulk {H : Type} : DataW H → Nat
  | .lit (.string bytes) => bytes.length + 1
  | .lit _ => 1
  | .nil => 1
  | .ptr d => uptoBulk d + 1
  | .slice elems spare => uptoBulkAll elems + uptoBulkAll spare + 1
  | .agg parts => uptoBulkAll parts + 1
  | .iface _ d => uptoBulk d + 1
  | .map entries => uptoBulkEntries entries + 1
  | .held _ => 1
def uptoBulkAll {H : Type} : List (DataW H) → Nat
  | [] => 0
  | d :: r => uptoBulk d + uptoBulkAll r
def uptoBulkEntries {H : Type} : List (Lit × DataW H) → Nat
  | [] => 0
  | x :: r => uptoBulkEntry x + uptoBulkEntries r
def uptoBulkEntry {H : Type} : Lit × DataW H → Nat
  | (.string bytes, d) => bytes.length + uptoBulk d + 1
  | (_, d) => uptoBulk d + 1
 end
def uptoSmall : (H : Type) → List (DataW H) → Bool := fun _ ds => decide (uptoBulkAll ds ≤ 1048576)
def OpenSpec.upto (s : _root_.Go.ChangeSpec) : _root_.Go.OpenSpec := { _root_.Go.OpenSpec.ofChange s with cond := some uptoSmall }

/-- 'sentinellaw22.LassoFormsMatch', WHERE WHAT IT READS IS OF BULK AT MOST 1048576: true; the input reads as it did. -/
def lassoFormsMatchUptoRow : OpenClaim := { program := "ythbgkdjnakeagaa", sum := "87c0df29f639c0bd294b4c93e8550fa3e56e4691a7e932f5f430ec41371cf97c", func := "sentinel/sentinellaw22.LassoFormsMatch", spec := "lassoFormsMatch", unfollowed := true, recurses := true, apart := false, narrowed := true }
def LassoFormsMatchUptoSaid : Prop := lassoFormsMatchUptoRow.holds Try.pinned (OpenSpec.upto lassoFormsMatchSpec)

/-- 'sentinellaw22.LassoMatches', WHERE WHAT IT READS IS OF BULK AT MOST 1048576: true; the input reads as it did. -/
def lassoMatchesUptoRow : OpenClaim := { program := "ythbgkdjnakeagaa", sum := "87c0df29f639c0bd294b4c93e8550fa3e56e4691a7e932f5f430ec41371cf97c", func := "sentinel/sentinellaw22.LassoMatches", spec := "lassoMatches", unfollowed := true, recurses := true, apart := false, narrowed := true }
def LassoMatchesUptoSaid : Prop := lassoMatchesUptoRow.holds Try.pinned (OpenSpec.upto lassoMatchesSpec)

/-- 'sentinellaw22.LassoExamples', WHERE WHAT IT READS IS OF BULK AT MOST 1048576: true; the input reads as it did. -/
def lassoExamplesUptoRow : OpenClaim := { program := "ythbgkdjnakeagaa", sum := "87c0df29f639c0bd294b4c93e8550fa3e56e4691a7e932f5f430ec41371cf97c", func := "sentinel/sentinellaw22.LassoExamples", spec := "lassoExamples", unfollowed := true, recurses := true, apart := false, narrowed := true }
def LassoExamplesUptoSaid : Prop := lassoExamplesUptoRow.holds Try.pinned (OpenSpec.upto lassoExamplesSpec)

/-- 'sentinellaw22.LassoOrder', WHERE WHAT IT READS IS OF BULK AT MOST 1048576: true; the input reads as it did. -/
def lassoOrderUptoRow : OpenClaim := { program := "ythbgkdjnakeagaa", sum := "87c0df29f639c0bd294b4c93e8550fa3e56e4691a7e932f5f430ec41371cf97c", func := "sentinel/sentinellaw22.LassoOrder", spec := "lassoOrder", unfollowed := true, recurses := true, apart := false, narrowed := true }
def LassoOrderUptoSaid : Prop := lassoOrderUptoRow.holds Try.pinned (OpenSpec.upto lassoOrderSpec)

/-- 'sentinellaw22.LassoMerge', WHERE WHAT IT READS IS OF BULK AT MOST 1048576: true; the input reads as it did. -/
def lassoMergeUptoRow : OpenClaim := { program := "ythbgkdjnakeagaa", sum := "87c0df29f639c0bd294b4c93e8550fa3e56e4691a7e932f5f430ec41371cf97c", func := "sentinel/sentinellaw22.LassoMerge", spec := "lassoMerge", unfollowed := true, recurses := true, apart := false, narrowed := true }
def LassoMergeUptoSaid : Prop := lassoMergeUptoRow.holds Try.pinned (OpenSpec.upto lassoMergeSpec)

/-- 'sentinellaw22.LassoSuffix', WHERE WHAT IT READS IS OF BULK AT MOST 1048576: true; the input reads as it did. -/
def lassoSuffixUptoRow : OpenClaim := { program := "ythbgkdjnakeagaa", sum := "87c0df29f639c0bd294b4c93e8550fa3e56e4691a7e932f5f430ec41371cf97c", func := "sentinel/sentinellaw22.LassoSuffix", spec := "lassoSuffix", unfollowed := true, recurses := true, apart := false, narrowed := true }
def LassoSuffixUptoSaid : Prop := lassoSuffixUptoRow.holds Try.pinned (OpenSpec.upto lassoSuffixSpec)

end Rows
end Go.Proofs.Ythbgkdjnakeagaa

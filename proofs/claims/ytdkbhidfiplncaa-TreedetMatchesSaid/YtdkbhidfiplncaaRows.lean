/-
  No cell of these rows narrows 'for every input' (looked for: loops, veiled, ifaces, maps, wideKeys, modest, calm, conditions, laid).
  DERIVED. THE GIVEN ROWS OF THIS SEAT. 9 by the template 'for every input the law returns true; each argument reads behind the call as it read before'; 0 by the template 'total and deterministic' (their statements: YtdkbhidfiplncaaTotals.lean).
  GIVEN WITH THE SEED: the statements are not yours to turn. If you find one false, say at which input.
  Laid BY PROGRAM, IN A SANDBOX (cutbox-rows.mjs): the forced cells as the released guide's own fill.sh prints them over the translation 4dea38134967c82d… (all of the seat's roots in one cut). By AI agents, Wed Nov 11 2026. No macro, syntax, notation, axiom, sorry.
-/
import Derived.Test.YtdkbhidfiplncaaChecked
import GoSem.Claim
import GoSem.ClaimJoined
import GoSem.ClaimMapViews
import Derived.JoinedTies
import Derived.KernelRfl
namespace Go.Proofs.Ytdkbhidfiplncaa
/- THE CELL 'sum', in the pinned program and in every row, IS THE sha256 OF THE DUMP (.gsa) THAT YtdkbhidfiplncaaProg.lean LOADS. Nothing in Lean hashes anything: it is a label: what it is worth is what the hold of that sum in a sandbox is worth. -/
noncomputable def Try.pinned : Pinned := { name := "ytdkbhidfiplncaa", sum := "4dea38134967c82dd6de0afc40eafd4d0ffc894de06267ed621289ab88eb9f6f", checked := Try.checked }
namespace Rows
def none {H : Type} : Left H := { results := [], args := [] }

/-- 'sentinellaw19.TreedetMatches': WHATEVER THE INPUT: true; the input reads as it did. -/
def treedetMatchesSpec : ChangeSpec := { name := "treedetMatches", fn := fun _ => fun
  | [d1, d2] => { results := [.lit (.bool true)], args := [d1, d2] }
  | _ => none }
def treedetMatchesRow : OpenClaim := { program := "ytdkbhidfiplncaa", sum := "4dea38134967c82dd6de0afc40eafd4d0ffc894de06267ed621289ab88eb9f6f", func := "sentinel/sentinellaw19.TreedetMatches", spec := "treedetMatches", unfollowed := true, recurses := true, apart := false }
def TreedetMatchesSaid : Prop := treedetMatchesRow.holds Try.pinned (OpenSpec.ofChange treedetMatchesSpec)

/-- ITS FALSE NEIGHBOUR: 'it returns false'. Refute it at one input. -/
def treedetMatchesWrong : ChangeSpec := { name := "treedetMatches", fn := fun _ => fun
  | [d1, d2] => { results := [.lit (.bool false)], args := [d1, d2] }
  | _ => none }
def TreedetMatchesWrongFalsely : Prop := treedetMatchesRow.holds Try.pinned (OpenSpec.ofChange treedetMatchesWrong)

/-- 'sentinellaw19.TreedetSubsets': WHATEVER THE INPUT: true; the input reads as it did. -/
def treedetSubsetsSpec : ChangeSpec := { name := "treedetSubsets", fn := fun _ => fun
  | [d1, d2] => { results := [.lit (.bool true)], args := [d1, d2] }
  | _ => none }
def treedetSubsetsRow : OpenClaim := { program := "ytdkbhidfiplncaa", sum := "4dea38134967c82dd6de0afc40eafd4d0ffc894de06267ed621289ab88eb9f6f", func := "sentinel/sentinellaw19.TreedetSubsets", spec := "treedetSubsets", unfollowed := true, recurses := true, apart := false }
def TreedetSubsetsSaid : Prop := treedetSubsetsRow.holds Try.pinned (OpenSpec.ofChange treedetSubsetsSpec)

/-- ITS FALSE NEIGHBOUR: 'it returns false'. Refute it at one input. -/
def treedetSubsetsWrong : ChangeSpec := { name := "treedetSubsets", fn := fun _ => fun
  | [d1, d2] => { results := [.lit (.bool false)], args := [d1, d2] }
  | _ => none }
def TreedetSubsetsWrongFalsely : Prop := treedetSubsetsRow.holds Try.pinned (OpenSpec.ofChange treedetSubsetsWrong)

/-- 'sentinellaw19.TreedetExamples': WHATEVER THE INPUT: true; the input reads as it did. -/
def treedetExamplesSpec : ChangeSpec := { name := "treedetExamples", fn := fun _ => fun
  | [] => { results := [.lit (.bool true)], args := [] }
  | _ => none }
def treedetExamplesRow : OpenClaim := { program := "ytdkbhidfiplncaa", sum := "4dea38134967c82dd6de0afc40eafd4d0ffc894de06267ed621289ab88eb9f6f", func := "sentinel/sentinellaw19.TreedetExamples", spec := "treedetExamples", unfollowed := true, recurses := true, apart := false }
def TreedetExamplesSaid : Prop := treedetExamplesRow.holds Try.pinned (OpenSpec.ofChange treedetExamplesSpec)

/-- ITS FALSE NEIGHBOUR: 'it returns false'. Refute it at one input. -/
def treedetExamplesWrong : ChangeSpec := { name := "treedetExamples", fn := fun _ => fun
  | [] => { results := [.lit (.bool false)], args := [] }
  | _ => none }
def TreedetExamplesWrongFalsely : Prop := treedetExamplesRow.holds Try.pinned (OpenSpec.ofChange treedetExamplesWrong)

/-- 'sentinellaw19.TreedetPreserves': WHATEVER THE INPUT: true; the input reads as it did. -/
def treedetPreservesSpec : ChangeSpec := { name := "treedetPreserves", fn := fun _ => fun
  | [d1, d2] => { results := [.lit (.bool true)], args := [d1, d2] }
  | _ => none }
def treedetPreservesRow : OpenClaim := { program := "ytdkbhidfiplncaa", sum := "4dea38134967c82dd6de0afc40eafd4d0ffc894de06267ed621289ab88eb9f6f", func := "sentinel/sentinellaw19.TreedetPreserves", spec := "treedetPreserves", unfollowed := true, recurses := true, apart := false }
def TreedetPreservesSaid : Prop := treedetPreservesRow.holds Try.pinned (OpenSpec.ofChange treedetPreservesSpec)

/-- ITS FALSE NEIGHBOUR: 'it returns false'. Refute it at one input. -/
def treedetPreservesWrong : ChangeSpec := { name := "treedetPreserves", fn := fun _ => fun
  | [d1, d2] => { results := [.lit (.bool false)], args := [d1, d2] }
  | _ => none }
def TreedetPreservesWrongFalsely : Prop := treedetPreservesRow.holds Try.pinned (OpenSpec.ofChange treedetPreservesWrong)

/-- 'sentinellaw19.TreedetCongruence': WHATEVER THE INPUT: true; the input reads as it did. -/
def treedetCongruenceSpec : ChangeSpec := { name := "treedetCongruence", fn := fun _ => fun
  | [d] => { results := [.lit (.bool true)], args := [d] }
  | _ => none }
def treedetCongruenceRow : OpenClaim := { program := "ytdkbhidfiplncaa", sum := "4dea38134967c82dd6de0afc40eafd4d0ffc894de06267ed621289ab88eb9f6f", func := "sentinel/sentinellaw19.TreedetCongruence", spec := "treedetCongruence", unfollowed := true, recurses := true, apart := false }
def TreedetCongruenceSaid : Prop := treedetCongruenceRow.holds Try.pinned (OpenSpec.ofChange treedetCongruenceSpec)

/-- ITS FALSE NEIGHBOUR: 'it returns false'. Refute it at one input. -/
def treedetCongruenceWrong : ChangeSpec := { name := "treedetCongruence", fn := fun _ => fun
  | [d] => { results := [.lit (.bool false)], args := [d] }
  | _ => none }
def TreedetCongruenceWrongFalsely : Prop := treedetCongruenceRow.holds Try.pinned (OpenSpec.ofChange treedetCongruenceWrong)

/-- 'sentinellaw19.TreedetDoubled': WHATEVER THE INPUT: true; the input reads as it did. -/
def treedetDoubledSpec : ChangeSpec := { name := "treedetDoubled", fn := fun _ => fun
  | [d1, d2] => { results := [.lit (.bool true)], args := [d1, d2] }
  | _ => none }
def treedetDoubledRow : OpenClaim := { program := "ytdkbhidfiplncaa", sum := "4dea38134967c82dd6de0afc40eafd4d0ffc894de06267ed621289ab88eb9f6f", func := "sentinel/sentinellaw19.TreedetDoubled", spec := "treedetDoubled", unfollowed := true, recurses := true, apart := false }
def TreedetDoubledSaid : Prop := treedetDoubledRow.holds Try.pinned (OpenSpec.ofChange treedetDoubledSpec)

/-- ITS FALSE NEIGHBOUR: 'it returns false'. Refute it at one input. -/
def treedetDoubledWrong : ChangeSpec := { name := "treedetDoubled", fn := fun _ => fun
  | [d1, d2] => { results := [.lit (.bool false)], args := [d1, d2] }
  | _ => none }
def TreedetDoubledWrongFalsely : Prop := treedetDoubledRow.holds Try.pinned (OpenSpec.ofChange treedetDoubledWrong)

/-- 'sentinellaw19.TreedetBack': WHATEVER THE INPUT: true; the input reads as it did. -/
def treedetBackSpec : ChangeSpec := { name := "treedetBack", fn := fun _ => fun
  | [d1, d2] => { results := [.lit (.bool true)], args := [d1, d2] }
  | _ => none }
def treedetBackRow : OpenClaim := { program := "ytdkbhidfiplncaa", sum := "4dea38134967c82dd6de0afc40eafd4d0ffc894de06267ed621289ab88eb9f6f", func := "sentinel/sentinellaw19.TreedetBack", spec := "treedetBack", unfollowed := true, recurses := true, apart := false }
def TreedetBackSaid : Prop := treedetBackRow.holds Try.pinned (OpenSpec.ofChange treedetBackSpec)

/-- ITS FALSE NEIGHBOUR: 'it returns false'. Refute it at one input. -/
def treedetBackWrong : ChangeSpec := { name := "treedetBack", fn := fun _ => fun
  | [d1, d2] => { results := [.lit (.bool false)], args := [d1, d2] }
  | _ => none }
def TreedetBackWrongFalsely : Prop := treedetBackRow.holds Try.pinned (OpenSpec.ofChange treedetBackWrong)

/-- 'sentinellaw19.TreedetJoins': WHATEVER THE INPUT: true; the input reads as it did. -/
def treedetJoinsSpec : ChangeSpec := { name := "treedetJoins", fn := fun _ => fun
  | [d1, d2, d3] => { results := [.lit (.bool true)], args := [d1, d2, d3] }
  | _ => none }
def treedetJoinsRow : OpenClaim := { program := "ytdkbhidfiplncaa", sum := "4dea38134967c82dd6de0afc40eafd4d0ffc894de06267ed621289ab88eb9f6f", func := "sentinel/sentinellaw19.TreedetJoins", spec := "treedetJoins", unfollowed := true, recurses := true, apart := false }
def TreedetJoinsSaid : Prop := treedetJoinsRow.holds Try.pinned (OpenSpec.ofChange treedetJoinsSpec)

/-- ITS FALSE NEIGHBOUR: 'it returns false'. Refute it at one input. -/
def treedetJoinsWrong : ChangeSpec := { name := "treedetJoins", fn := fun _ => fun
  | [d1, d2, d3] => { results := [.lit (.bool false)], args := [d1, d2, d3] }
  | _ => none }
def TreedetJoinsWrongFalsely : Prop := treedetJoinsRow.holds Try.pinned (OpenSpec.ofChange treedetJoinsWrong)

/-- 'sentinellaw19.TreedetLanguage': WHATEVER THE INPUT: true; the input reads as it did. -/
def treedetLanguageSpec : ChangeSpec := { name := "treedetLanguage", fn := fun _ => fun
  | [d1, d2] => { results := [.lit (.bool true)], args := [d1, d2] }
  | _ => none }
def treedetLanguageRow : OpenClaim := { program := "ytdkbhidfiplncaa", sum := "4dea38134967c82dd6de0afc40eafd4d0ffc894de06267ed621289ab88eb9f6f", func := "sentinel/sentinellaw19.TreedetLanguage", spec := "treedetLanguage", unfollowed := true, recurses := true, apart := false }
def TreedetLanguageSaid : Prop := treedetLanguageRow.holds Try.pinned (OpenSpec.ofChange treedetLanguageSpec)

/-- ITS FALSE NEIGHBOUR: 'it returns false'. Refute it at one input. -/
def treedetLanguageWrong : ChangeSpec := { name := "treedetLanguage", fn := fun _ => fun
  | [d1, d2] => { results := [.lit (.bool false)], args := [d1, d2] }
  | _ => none }
def TreedetLanguageWrongFalsely : Prop := treedetLanguageRow.holds Try.pinned (OpenSpec.ofChange treedetLanguageWrong)

/- THE SECOND FORM. 'bulk': how many values and letters a reading holds, each counted each time it is reached (what is shared counts as often as it is met; a slice's spare places count too). A statement '..UptoSaid' is the law's where the arguments, and the package variables that the reading takes, are together of bulk at most 1048576: NARROWER than '..Said'. Prove '..Said' where nothing that the law and all that it calls make is longer than what came in: it says more and counts as full. Else prove '..UptoSaid'. A law counts once. -/
mutual
def uptoBulk {H : Type} : DataW H → Nat
  | .lit (.string bytes) => bytes.length + 1
  | .lit _ => 1
  | .nil => 1
  | .ptr d => uptoBulk d + 1
  | .slice elems spare => uptoBulkAll elems + uptoBulkAll spare + 1
  | .agg parts => uptoBulkAll parts + 1
  | .iface _ d => uptoBulk d + 1
  | .map entries => uptoBulkEntries entries + 1
  | .held _ => 1
def uptoBulkAll {H : Type} : List (DataW H) → Nat
  | [] => 0
  | d :: r => uptoBulk d + uptoBulkAll r
def uptoBulkEntries {H : Type} : List (Lit × DataW H) → Nat
  | [] => 0
  | x :: r => uptoBulkEntry x + uptoBulkEntries r
def uptoBulkEntry {H : Type} : Lit × DataW H → Nat
  | (.string bytes, d) => bytes.length + uptoBulk d + 1
  | (_, d) => uptoBulk d + 1
 end
def uptoSmall : (H : Type) → List (DataW H) → Bool := fun _ ds => decide (uptoBulkAll ds ≤ 1048576)
def OpenSpec.upto (s : _root_.Go.ChangeSpec) : _root_.Go.OpenSpec := { _root_.Go.OpenSpec.ofChange s with cond := some uptoSmall }

/-- 'sentinellaw19.TreedetMatches', WHERE WHAT IT READS IS OF BULK AT MOST 1048576: true; the input reads as it did. -/
def treedetMatchesUptoRow : OpenClaim := { program := "ytdkbhidfiplncaa", sum := "4dea38134967c82dd6de0afc40eafd4d0ffc894de06267ed621289ab88eb9f6f", func := "sentinel/sentinellaw19.TreedetMatches", spec := "treedetMatches", unfollowed := true, recurses := true, apart := false, narrowed := true }
def TreedetMatchesUptoSaid : Prop := treedetMatchesUptoRow.holds Try.pinned (OpenSpec.upto treedetMatchesSpec)

/-- 'sentinellaw19.TreedetSubsets', WHERE WHAT IT READS IS OF BULK AT MOST 1048576: true; the input reads as it did. -/
def treedetSubsetsUptoRow : OpenClaim := { program := "ytdkbhidfiplncaa", sum := "4dea38134967c82dd6de0afc40eafd4d0ffc894de06267ed621289ab88eb9f6f", func := "sentinel/sentinellaw19.TreedetSubsets", spec := "treedetSubsets", unfollowed := true, recurses := true, apart := false, narrowed := true }
def TreedetSubsetsUptoSaid : Prop := treedetSubsetsUptoRow.holds Try.pinned (OpenSpec.upto treedetSubsetsSpec)

/-- 'sentinellaw19.TreedetExamples', WHERE WHAT IT READS IS OF BULK AT MOST 1048576: true; the input reads as it did. -/
def treedetExamplesUptoRow : OpenClaim := { program := "ytdkbhidfiplncaa", sum := "4dea38134967c82dd6de0afc40eafd4d0ffc894de06267ed621289ab88eb9f6f", func := "sentinel/sentinellaw19.TreedetExamples", spec := "treedetExamples", unfollowed := true, recurses := true, apart := false, narrowed := true }
def TreedetExamplesUptoSaid : Prop := treedetExamplesUptoRow.holds Try.pinned (OpenSpec.upto treedetExamplesSpec)

/-- 'sentinellaw19.TreedetPreserves', WHERE WHAT IT READS IS OF BULK AT MOST 1048576: true; the input reads as it did. -/
def treedetPreservesUptoRow : OpenClaim := { program := "ytdkbhidfiplncaa", sum := "4dea38134967c82dd6de0afc40eafd4d0ffc894de06267ed621289ab88eb9f6f", func := "sentinel/sentinellaw19.TreedetPreserves", spec := "treedetPreserves", unfollowed := true, recurses := true, apart := false, narrowed := true }
def TreedetPreservesUptoSaid : Prop := treedetPreservesUptoRow.holds Try.pinned (OpenSpec.upto treedetPreservesSpec)

/-- 'sentinellaw19.TreedetCongruence', WHERE WHAT IT READS IS OF BULK AT MOST 1048576: true; the input reads as it did. -/
def treedetCongruenceUptoRow : OpenClaim := { program := "ytdkbhidfiplncaa", sum := "4dea38134967c82dd6de0afc40eafd4d0ffc894de06267ed621289ab88eb9f6f", func := "sentinel/sentinellaw19.TreedetCongruence", spec := "treedetCongruence", unfollowed := true, recurses := true, apart := false, narrowed := true }
def TreedetCongruenceUptoSaid : Prop := treedetCongruenceUptoRow.holds Try.pinned (OpenSpec.upto treedetCongruenceSpec)

/-- 'sentinellaw19.TreedetDoubled', WHERE WHAT IT READS IS OF BULK AT MOST 1048576: true; the input reads as it did. -/
def treedetDoubledUptoRow : OpenClaim := { program := "ytdkbhidfiplncaa", sum := "4dea38134967c82dd6de0afc40eafd4d0ffc894de06267ed621289ab88eb9f6f", func := "sentinel/sentinellaw19.TreedetDoubled", spec := "treedetDoubled", unfollowed := true, recurses := true, apart := false, narrowed := true }
def TreedetDoubledUptoSaid : Prop := treedetDoubledUptoRow.holds Try.pinned (OpenSpec.upto treedetDoubledSpec)

/-- 'sentinellaw19.TreedetBack', WHERE WHAT IT READS IS OF BULK AT MOST 1048576: true; the input reads as it did. -/
def treedetBackUptoRow : OpenClaim := { program := "ytdkbhidfiplncaa", sum := "4dea38134967c82dd6de0afc40eafd4d0ffc894de06267ed621289ab88eb9f6f", func := "sentinel/sentinellaw19.TreedetBack", spec := "treedetBack", unfollowed := true, recurses := true, apart := false, narrowed := true }
def TreedetBackUptoSaid : Prop := treedetBackUptoRow.holds Try.pinned (OpenSpec.upto treedetBackSpec)

/-- 'sentinellaw19.TreedetJoins', WHERE WHAT IT READS IS OF BULK AT MOST 1048576: true; the input reads as it did. -/
def treedetJoinsUptoRow : OpenClaim := { program := "ytdkbhidfiplncaa", sum := "4dea38134967c82dd6de0afc40eafd4d0ffc894de06267ed621289ab88eb9f6f", func := "sentinel/sentinellaw19.TreedetJoins", spec := "treedetJoins", unfollowed := true, recurses := true, apart := false, narrowed := true }
def TreedetJoinsUptoSaid : Prop := treedetJoinsUptoRow.holds Try.pinned (OpenSpec.upto treedetJoinsSpec)

/-- 'sentinellaw19.TreedetLanguage', WHERE WHAT IT READS IS OF BULK AT MOST 1048576: true; the input reads as it did. -/
def treedetLanguageUptoRow : OpenClaim := { program := "ytdkbhidfiplncaa", sum := "4dea38134967c82dd6de0afc40eafd4d0ffc894de06267ed621289ab88eb9f6f", func := "sentinel/sentinellaw19.TreedetLanguage", spec := "treedetLanguage", unfollowed := true, recurses := true, apart := false, narrowed := true }
def TreedetLanguageUptoSaid : Prop := treedetLanguageUptoRow.holds Try.pinned (OpenSpec.upto treedetLanguageSpec)

end Rows
end Go.Proofs.Ytdkbhidfiplncaa

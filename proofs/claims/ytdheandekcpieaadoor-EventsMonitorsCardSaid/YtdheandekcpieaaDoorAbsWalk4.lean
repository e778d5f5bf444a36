/- The walk's words for two appends in no fixed order. -/
import Derived.Test.YtdheandekcpieaaDoorAbsWalk
namespace Go.Abs
set_option linter.unusedVariables false
set_option linter.unusedSimpArgs false
open Go.RowKit
section
variable {R : Rec} {F : List AV} {H : Heap} {s : St}
def dsK (n : Nat) (H : Heap) : Option (List AV) → Option (AV × Heap)
 | some cs => if cs.all xBN = true then some (.sl false n cs,H) else none
 | none => none
theorem xHn {n : Nat} {cs : List AV} (h : cs.all xBN = true) : dsK n H (some cs) = some (.sl false n cs,H) := if_pos h
theorem xFT (z : List AV) (es n : Nat) (parts : List (Nat × Arg)) : xAa R F H (.dslice z es n parts) =
  if (parts.all fun p => (opv F p.2).cells.length == es) = true then dsK n H (fillA (xCp z n) (parts.map fun p => (p.1 * es,(opv F p.2).cells))) else none := by
 simp only [xAa]
 split
 ·cases fillA (xCp z n) (parts.map fun p => (p.1 * es,(opv F p.2).cells)) <;> rfl
 ·rfl
end
end Go.Abs

import Derived.Test.YtbfnjdhafgnlnaaAProg
namespace Go.Abs.Nfa
open Go Go.Abs
def isT : Option AV → Bool
  | some (.bool true) => true
  | _ => false
theorem xTK {o : Option AV} (h : isT o = true) : o = some (.bool true) := by
  unfold isT at h
  split at h
  · rfl
  · cases h
set_option maxRecDepth 100000 in
theorem xQP : isT ((fix xDM 100).pcall 9 []) = true := by kernel_rfl
theorem xH0 : (lim xDM).pcall 9 [] = some (.bool true) := xSY 100 (xTK xQP)
end Go.Abs.Nfa

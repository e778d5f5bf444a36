import Derived.Test.YtbfnjdhafgnlnaaDoorAProg
namespace Go.Abs.NfaD
open Go Go.Abs
def isT : Option AV → Bool
  | some (.bool true) => true
  | _ => false
theorem isT_eq {o : Option AV} (h : isT o = true) : o = some (.bool true) := by
  unfold isT at h
  split at h
  · rfl
  · cases h
set_option maxRecDepth 100000 in
theorem awake_fix : isT ((fix aprog 100).pcall 7 []) = true := by kernel_rfl
theorem awake_eq : (lim aprog).pcall 7 [] = some (.bool true) := lim_fix 100 (isT_eq awake_fix)
end Go.Abs.NfaD

import Derived.Test.YtbfnjdhafgnlnaaDoorAProg
namespace Go.Abs.NfaD
open Go Go.Abs
def isT : Option AV → Bool
 | some (.bool true) => true
 | _ => false
theorem yCH {o : Option AV} (h : isT o = true) : o = some (.bool true) := by
 unfold isT at h
 split at h
 ·rfl
 ·cases h
set_option maxRecDepth 100000 in
theorem xX5 : isT ((fix xAS 100).pcall 7 []) = true := by kernel_rfl
theorem xMs : (lim xAS).pcall 7 [] = some (.bool true) := yAW 100 (yCH xX5)
end Go.Abs.NfaD

/- xCp calls. -/
import Derived.Test.YtkpbekcgigigkaaDoorAProg
import Derived.Test.YtkpbekcgigigkaaDoorAbsFast
namespace Go.Abs.Mealy
open Go Go.Abs
set_option linter.unusedVariables false
set_option maxRecDepth 100000
def kT0 : Known := []
theorem kO0 : ∀ e ∈ kT0,(lim xAq).pcall e.1 e.2.1 = some e.2.2 := xXR
theorem k1 : (lim xAq).pcall 13 [] = some (.bool true)   := xUE (n := 3000) kO0 (by kernel_rfl)
end Go.Abs.Mealy

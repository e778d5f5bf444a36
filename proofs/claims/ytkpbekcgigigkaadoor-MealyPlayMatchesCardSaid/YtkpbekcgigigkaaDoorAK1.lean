/- xBW calls. -/
import Derived.Test.YtkpbekcgigigkaaDoorAProg
import Derived.Test.YtkpbekcgigigkaaDoorAbsFast
namespace Go.Abs.Mealy
open Go Go.Abs
set_option linter.unusedVariables false
set_option maxRecDepth 100000
def kT0 : Known := []
theorem kO0 : ∀ e ∈ kT0,(lim xAF).pcall e.1 e.2.1 = some e.2.2 := xT1
theorem k1 : (lim xAF).pcall 13 [] = some (.bool true)   := xQ8 (n := 3000) kO0 (by kernel_rfl)
end Go.Abs.Mealy

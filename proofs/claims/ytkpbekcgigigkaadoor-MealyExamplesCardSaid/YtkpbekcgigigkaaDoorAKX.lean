/- Closed calls. -/
import Derived.Test.YtkpbekcgigigkaaDoorAProg
import Derived.Test.YtkpbekcgigigkaaDoorAbsFast
namespace Go.Abs.Mealy
open Go Go.Abs
set_option linter.unusedVariables false
set_option maxRecDepth 100000

def kT0 : Known := []
theorem kO0 : ∀ e ∈ kT0, (lim aprog).pcall e.1 e.2.1 = some e.2.2 := known_nil
theorem k1 : (lim aprog).pcall 13 [] = some (.bool true)   := runsToF_ok (n := 3000) kO0 (by kernel_rfl)
def kT1 : Known := (13, [], .bool true) :: kT0
theorem kO1 : ∀ e ∈ kT1, (lim aprog).pcall e.1 e.2.1 = some e.2.2 := known_cons kO0 k1
theorem k2 : (lim aprog).pcall 8 [] = some (.bool true)   := runsToF_ok (n := 3000) kO1 (by kernel_rfl)
def kT2 : Known := (8, [], .bool true) :: kT1
theorem kO2 : ∀ e ∈ kT2, (lim aprog).pcall e.1 e.2.1 = some e.2.2 := known_cons kO1 k2
end Go.Abs.Mealy

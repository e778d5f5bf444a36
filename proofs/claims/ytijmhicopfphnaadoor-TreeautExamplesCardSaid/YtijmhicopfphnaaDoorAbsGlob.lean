/- A package-level array of bytes that reads as laid lies where the interpreter looks for it. -/
import Derived.Test.YtijmhicopfphnaaDoorAbsLaw3
import Derived.LaidMore
import Derived.OpenShut
import Derived.ChangeArms
namespace Go.Abs
set_option linter.unusedVariables false
set_option linter.unusedSimpArgs false
end Go.Abs

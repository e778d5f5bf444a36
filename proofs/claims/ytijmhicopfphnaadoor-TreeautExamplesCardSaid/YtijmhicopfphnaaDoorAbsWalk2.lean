/- The walk's words for maps,strings and rows of bytes. -/
import Derived.Test.YtijmhicopfphnaaDoorAbsWalk
namespace Go.Abs
set_option linter.unusedVariables false
set_option linter.unusedSimpArgs false
section
variable {R : Rec} {F : List AV} {H : Heap}
end
end Go.Abs

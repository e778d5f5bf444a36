/- The walk's words for drawn regions in which a call leaves what a slot points at as it was. -/
import Derived.Test.YtijmhicopfphnaaDoorAbsWalk
namespace Go.Abs
set_option linter.unusedVariables false
set_option linter.unusedSimpArgs false
section
variable {R : Rec} {F : List AV} {H : Heap} {s : St}
end
end Go.Abs

/- TreeautExamples: the law. -/
import Derived.Test.YtijmhicopfphnaaDoorAMD
import Derived.Test.YtijmhicopfphnaaDoorAMS
import Derived.Test.YtijmhicopfphnaaDoorAME
namespace Go.Abs.Tree
open Go Go.Abs
theorem law5t (avs : List AV) (h : xWb [] avs) : L.pcall 5 avs = some (.bool true) := by
 obtain rfl := xYh h
 exact yIn (fun n g z t hx => yIy n g z t hx) (fun n k g gk => yIq n k g gk) k16
end Go.Abs.Tree

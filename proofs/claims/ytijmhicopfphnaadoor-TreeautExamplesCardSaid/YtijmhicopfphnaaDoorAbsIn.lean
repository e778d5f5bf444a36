/- Fitting data as lists of numbers. -/
import Derived.Test.YtijmhicopfphnaaDoorAbsLaw
import Derived.Test.YtijmhicopfphnaaDoorAbsEnc
namespace Go.Abs
set_option linter.unusedVariables false
set_option linter.unusedSimpArgs false
theorem xYh {as : List AV} (h : xWb [] as) : as = [] := by
 cases as with
 | nil => rfl
 | cons _ _ => exact h.elim
end Go.Abs

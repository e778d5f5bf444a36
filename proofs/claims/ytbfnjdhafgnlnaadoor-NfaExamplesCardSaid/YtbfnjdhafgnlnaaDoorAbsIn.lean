/- Fitting data as lists of numbers. -/
import Derived.Test.YtbfnjdhafgnlnaaDoorAbsLaw
import Derived.Test.YtbfnjdhafgnlnaaDoorAbsEnc
namespace Go.Abs
set_option linter.unusedVariables false
set_option linter.unusedSimpArgs false
end Go.Abs

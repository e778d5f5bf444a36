/- AbsLaw2's road,where package-level variables read as laid. -/
import Derived.Test.YtdheandekcpieaaDoorAbsLaw2
import Derived.LaidLaws
import Derived.Handed
namespace Go.Abs
set_option linter.unusedVariables false
set_option linter.unusedSimpArgs false
open Go.ChangeShapes Go.WideShapes Go.ChangeAt Go.RowKit
end Go.Abs

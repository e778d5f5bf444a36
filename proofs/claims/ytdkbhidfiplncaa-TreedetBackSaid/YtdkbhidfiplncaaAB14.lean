/- What comes in. -/
import Derived.Test.YtdkbhidfiplncaaAMB
import Derived.Test.YtdkbhidfiplncaaAFit
import Derived.Test.YtdkbhidfiplncaaAbsIn
namespace Go.Abs.Det
open Go Go.Abs
set_option linter.unusedSimpArgs false
set_option linter.unusedVariables false

end Go.Abs.Det

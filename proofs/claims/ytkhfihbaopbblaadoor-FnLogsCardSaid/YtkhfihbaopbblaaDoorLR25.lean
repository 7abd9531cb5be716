/- Plain laws: R25. -/
import Derived.Test.YtkhfihbaopbblaaDoorLR21
set_option linter.unusedVariables false
set_option linter.unusedSimpArgs false
namespace Go.Pl
open Go Go.Tv Go.RowKit
end Go.Pl

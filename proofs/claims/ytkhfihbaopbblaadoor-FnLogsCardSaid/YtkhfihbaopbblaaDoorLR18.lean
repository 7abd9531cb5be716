/- Plain laws: R18. -/
import Derived.Test.YtkhfihbaopbblaaDoorLLVl
set_option linter.unusedVariables false
set_option linter.unusedSimpArgs false
namespace Go.Pl
open Go Go.Tv Go.RowKit
end Go.Pl

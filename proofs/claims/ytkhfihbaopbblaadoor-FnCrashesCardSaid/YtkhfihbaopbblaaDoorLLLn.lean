/- Plain laws: LLn. -/
import Derived.Test.YtkhfihbaopbblaaDoorLLTh
import Derived.Test.YtkhfihbaopbblaaDoorLLSum
import Derived.Test.YtkhfihbaopbblaaDoorLL7
set_option linter.unusedVariables false
set_option linter.unusedSimpArgs false
namespace Go.Pl
open Go Go.Tv Go.RowKit
set_option linter.unusedVariables false
end Go.Pl

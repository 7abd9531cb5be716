/- Plain laws: LLb. -/
import Derived.Test.YtfoielhhflbbfaaLLLa
set_option linter.unusedVariables false
set_option linter.unusedSimpArgs false
namespace Go.Pl
open Go Go.Tv Go.RowKit
set_option linter.unusedVariables false
end Go.Pl

/- Plain laws: LRs. -/
import Derived.Test.YtfoielhhflbbfaaLLLb
import Derived.Test.YtfoielhhflbbfaaLLFr
import Derived.Test.YtfoielhhflbbfaaLLWo
import Derived.Test.YtfoielhhflbbfaaLLC
set_option linter.unusedVariables false
set_option linter.unusedSimpArgs false
namespace Go.Pl
open Go Go.Tv Go.RowKit
set_option linter.unusedVariables false
end Go.Pl

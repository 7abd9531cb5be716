/- Plain laws: LLog. -/
import Derived.Test.YtifcbamdncpahaaDoorLLRd
set_option linter.unusedVariables false
set_option linter.unusedSimpArgs false
namespace Go.Pl
open Go Go.Tv Go.RowKit
end Go.Pl

/- Plain laws: R4. -/
import Derived.Test.YtifcbamdncpahaaDoorLL1
set_option linter.unusedVariables false
set_option linter.unusedSimpArgs false
namespace Go.Pl
open Go Go.Tv Go.RowKit
end Go.Pl

/- Plain laws: L7. -/
import Derived.Test.YtifcbamdncpahaaDoorLL2b
set_option linter.unusedVariables false
set_option linter.unusedSimpArgs false
namespace Go.Pl
open Go Go.Tv Go.RowKit
end Go.Pl

/- Plain laws: R21. -/
import Derived.Test.YtifcbamdncpahaaDoorLLVl
import Derived.Test.YtifcbamdncpahaaDoorPL
set_option linter.unusedVariables false
set_option linter.unusedSimpArgs false
namespace Go.Pl
open Go Go.Tv Go.RowKit
end Go.Pl

/- Plain laws: LRec. -/
import Derived.Test.YtifcbamdncpahaaDoorLLNum
import Derived.Test.YtifcbamdncpahaaDoorLR4
set_option linter.unusedVariables false
set_option linter.unusedSimpArgs false
namespace Go.Pl
open Go Go.Tv Go.RowKit
end Go.Pl

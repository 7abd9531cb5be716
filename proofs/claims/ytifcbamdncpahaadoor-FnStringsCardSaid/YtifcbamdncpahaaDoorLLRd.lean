/- Plain laws: LRd. -/
import Derived.Test.YtifcbamdncpahaaDoorLLCut
import Derived.Test.YtifcbamdncpahaaDoorLLRec
set_option linter.unusedVariables false
set_option linter.unusedSimpArgs false
namespace Go.Pl
open Go Go.Tv Go.RowKit
end Go.Pl

/- Plain laws: LJn. -/
import Derived.Test.YtifcbamdncpahaaDoorLLCut
import Derived.Test.YtifcbamdncpahaaDoorLLD
import Derived.Lib.Join
import Derived.Test.YtifcbamdncpahaaDoorLR15
set_option linter.unusedVariables false
set_option linter.unusedSimpArgs false
namespace Go.Pl
open Go Go.Tv Go.RowKit
end Go.Pl

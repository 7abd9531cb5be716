/- Plain laws: LJn. -/
import Derived.Test.YtkhfihbaopbblaaDoorLLCut
import Derived.Test.YtkhfihbaopbblaaDoorLLD
import Derived.Lib.Join
import Derived.Test.YtkhfihbaopbblaaDoorLR15
set_option linter.unusedVariables false
set_option linter.unusedSimpArgs false
namespace Go.Pl
open Go Go.Tv Go.RowKit
end Go.Pl

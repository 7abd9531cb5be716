/- Plain laws: L12. -/
import Derived.Test.YtkhfihbaopbblaaDoorLLX1
set_option linter.unusedVariables false
set_option linter.unusedSimpArgs false
namespace Go.Pl
open Go Go.Tv Go.RowKit
abbrev Lg := ByteArray × (ByteArray × Int)
end Go.Pl

/- Plain laws: L81. -/
import Derived.Test.YtifcbamdncpahaaDoorLLX1
import Derived.KernelRfl
set_option linter.unusedVariables false
set_option linter.unusedSimpArgs false
namespace Go.Pl
open Go Go.Tv Go.RowKit
end Go.Pl

/- Plain laws: LSum. -/
import Derived.Test.YtifcbamdncpahaaDoorLLP0
set_option linter.unusedVariables false
set_option linter.unusedSimpArgs false
namespace Go.Pl
open Go Go.Tv
end Go.Pl

/- Plain laws: LSum. -/
import Derived.Test.YtifcbamdncpahaaDoorLLP0
set_option linter.unusedVariables false
set_option linter.unusedSimpArgs false
namespace Go.Pl
open Go Go.Tv
def b2 (b : Bool) : Nat := if b = true then 1 else 0
end Go.Pl

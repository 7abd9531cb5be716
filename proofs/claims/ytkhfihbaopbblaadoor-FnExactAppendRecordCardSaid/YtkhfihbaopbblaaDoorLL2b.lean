/- Plain laws: L2b. -/
import Derived.Test.YtkhfihbaopbblaaDoorLL4
set_option linter.unusedVariables false
set_option linter.unusedSimpArgs false
namespace Go.Pl
open Go Go.Tv Go.RowKit
def placeI (o : Option Nat) : Int := match o with | some i => i | none => -1
end Go.Pl

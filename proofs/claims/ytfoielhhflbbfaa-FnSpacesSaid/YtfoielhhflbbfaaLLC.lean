/- Plain laws: LC. -/
import Derived.Test.YtfoielhhflbbfaaLLD2
import Derived.Test.YtfoielhhflbbfaaLL81
import Derived.KernelRfl
set_option linter.unusedVariables false
set_option linter.unusedSimpArgs false
namespace Go.Pl
open Go Go.Tv Go.RowKit
set_option linter.unusedVariables false
set_option linter.unusedSimpArgs false
def I3 (a b c : Card) : Bool × Bool := if (isC a && (isC b && isC c)) = true then (lineB a b c, true) else (false, false)
end Go.Pl

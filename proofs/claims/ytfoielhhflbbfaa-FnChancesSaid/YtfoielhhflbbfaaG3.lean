/- Plain laws: LWo, LC, LRs, LSo2, LSo3. -/
import Derived.Test.YtfoielhhflbbfaaG1
import Derived.Test.YtfoielhhflbbfaaG0
import Derived.KernelRfl
import Derived.Test.YtfoielhhflbbfaaG2
set_option linter.unusedVariables false
set_option linter.unusedSimpArgs false
namespace Go.Pl
open Go Go.Tv Go.RowKit
set_option linter.unusedVariables false
end Go.Pl
namespace Go.Pl
open Go Go.Tv Go.RowKit
set_option linter.unusedVariables false
set_option linter.unusedSimpArgs false
def d1 (x y : Int) : Int := if x = y then 0 else 1
end Go.Pl
namespace Go.Pl
open Go Go.Tv Go.RowKit
set_option linter.unusedVariables false
end Go.Pl
namespace Go.Pl
open Go Go.Tv Go.RowKit
set_option linter.unusedVariables false
end Go.Pl
namespace Go.Pl
open Go Go.Tv Go.RowKit
set_option linter.unusedVariables false
end Go.Pl

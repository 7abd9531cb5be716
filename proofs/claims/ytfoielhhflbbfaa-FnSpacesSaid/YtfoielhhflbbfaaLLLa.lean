/- Plain laws: LLa. -/
import Derived.Test.YtfoielhhflbbfaaLLLn
import Derived.Test.YtfoielhhflbbfaaPL
set_option linter.unusedVariables false
set_option linter.unusedSimpArgs false
namespace Go.Pl
open Go Go.Tv Go.RowKit
set_option linter.unusedVariables false
def cl (N : Nat) (f : Nat → Int) : List Int := (List.range' 0 (N - 0)).map f
end Go.Pl

/- Plain laws: L4. -/
import Derived.Test.YtifcbamdncpahaaDoorLL2
set_option linter.unusedVariables false
set_option linter.unusedSimpArgs false
namespace Go.Pl
open Go Go.Tv Go.RowKit
def t3 (x y : Int) : Int := Int.tmod (6 - x - y) 3
def third (a b : Card) : Card := ⟨t3 a.x0 b.x0, t3 a.x1 b.x1, t3 a.x2 b.x2, t3 a.x3 b.x3⟩
end Go.Pl

/- Plain laws: LLa, LLb, LFr, LWo, LC. -/
import Derived.Test.YtfoielhhflbbfaaG3
import Derived.Test.YtfoielhhflbbfaaPL
import Derived.KernelRfl
import Derived.Test.YtfoielhhflbbfaaG1
import Derived.Test.YtfoielhhflbbfaaG0
set_option linter.unusedVariables false
set_option linter.unusedSimpArgs false
namespace Go.Pl
open Go Go.Tv Go.RowKit
set_option linter.unusedVariables false
def onI (l : V3 Int) (i : Int) : Bool := decide (l.x0 = i) || decide (l.x1 = i) || decide (l.x2 = i)
def LA (h : List Card) (i : Int) : Bool × List (V3 Int) := if hand h && decide (0 ≤ i ∧ i ≤ (h.length : Int) - 1) then (true, (linesOf h).filter fun l => onI l i) else (false, [])
end Go.Pl
namespace Go.Pl
open Go Go.Tv Go.RowKit
set_option linter.unusedVariables false
end Go.Pl
namespace Go.Pl
open Go Go.Tv Go.RowKit
set_option linter.unusedVariables false
end Go.Pl
namespace Go.Pl
open Go Go.Tv Go.RowKit
set_option linter.unusedVariables false
end Go.Pl
namespace Go.Pl
open Go Go.Tv Go.RowKit
set_option linter.unusedVariables false
set_option linter.unusedSimpArgs false
def d1 (x y : Int) : Int := if x = y then 0 else 1
end Go.Pl

/- Plain laws: R15. -/
import Derived.Test.YtifcbamdncpahaaDoorLLRec
import Derived.Test.YtifcbamdncpahaaDoorPL
set_option linter.unusedVariables false
set_option linter.unusedSimpArgs false
namespace Go.Pl
open Go Go.Tv Go.RowKit
theorem eqd_self {α : Type} [DecidableEq α] (a : α) : eqd a a = true := decide_eq_true rfl
end Go.Pl

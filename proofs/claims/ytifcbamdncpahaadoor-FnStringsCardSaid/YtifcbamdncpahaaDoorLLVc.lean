/- Plain laws: LVc. -/
import Derived.Test.YtifcbamdncpahaaDoorLLLn
import Derived.Test.YtifcbamdncpahaaDoorPL
set_option linter.unusedVariables false
set_option linter.unusedSimpArgs false
namespace Go.Pl
open Go Go.Tv Go.RowKit
set_option linter.unusedVariables false
set_option linter.unusedSimpArgs false
theorem ok_bytes' {a : List Int} (h : (Ty.sl (.int .u8)).ok a) : ∀ x, x ∈ a → 0 ≤ x ∧ x ≤ 255 := fun x hx => bounds_u8 (h.2 x hx)
def ByB (a : List Int) : Prop := ∀ x, x ∈ a → 0 ≤ x ∧ x ≤ 255
end Go.Pl

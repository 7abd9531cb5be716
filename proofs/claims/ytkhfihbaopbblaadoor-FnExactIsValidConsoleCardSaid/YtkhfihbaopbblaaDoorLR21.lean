/- Plain laws: R21. -/
import Derived.Test.YtkhfihbaopbblaaDoorLLVl
import Derived.Test.YtkhfihbaopbblaaDoorPL
set_option linter.unusedVariables false
set_option linter.unusedSimpArgs false
namespace Go.Pl
open Go Go.Tv Go.RowKit
theorem ok_log {l : Lg} (ok : (Ty.pair .str (.pair .str (.int .i64))).ok l) : l.1.size ≤ 9223372036854775807 ∧ l.2.1.size ≤ 9223372036854775807 := ⟨ok_str ok.1, ok_str ok.2.1⟩
end Go.Pl

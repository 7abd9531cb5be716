/- Plain laws: L12. -/
import Derived.Test.YtkhfihbaopbblaaDoorLLX1
set_option linter.unusedVariables false
set_option linter.unusedSimpArgs false
namespace Go.Pl
open Go Go.Tv Go.RowKit
abbrev Lg := ByteArray × (ByteArray × Int)
theorem v_eqLog_eq {n : Nat} (a b : Lg) : v_eqLog n a b = some (decide (a = b)) := by
  obtain ⟨a0, a1, a2⟩ := a
  obtain ⟨b0, b1, b2⟩ := b
  unfold v_eqLog
  by_cases h0 : a0 = b0 <;> by_cases h1 : a1 = b1 <;> by_cases h2 : a2 = b2 <;> simp [eqd, h0, h1, h2]
end Go.Pl

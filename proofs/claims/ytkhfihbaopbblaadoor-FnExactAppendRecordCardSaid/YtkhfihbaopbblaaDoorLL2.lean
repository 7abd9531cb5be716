/- Plain laws: L2. -/
import Derived.Test.YtkhfihbaopbblaaDoorPL
import Derived.Test.YtkhfihbaopbblaaDoorLLP0
set_option linter.unusedVariables false
set_option linter.unusedSimpArgs false
namespace Go.Pl
open Go Go.Tv Go.RowKit
theorem s_l1In_eq (n : Nat) (x a b : Int) : s_l1In n x a b = some (decide (a ≤ x ∧ x ≤ b)) := by
  unfold s_l1In
  by_cases h : a ≤ x <;> simp [h]
theorem i_within_eq (n : Nat) (x a b : Int) : i_within n x a b = some (decide (a ≤ x ∧ x ≤ b)) := by
  unfold i_within
  by_cases h : a ≤ x <;> simp [h]
end Go.Pl

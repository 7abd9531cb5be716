/- Plain laws: R17. -/
import Derived.Test.YtklhncjpkkfjmaaLLP0
import Derived.Test.YtklhncjpkkfjmaaPL
import Derived.KernelRfl
set_option linter.unusedVariables false
set_option linter.unusedSimpArgs false
namespace Go.Pl
open Go Go.Tv Go.RowKit

theorem codewords_run (m : Nat) : v_FnExactCodewords (m + 64) = some true := by kernel_rfl
theorem law_FnExactCodewords {n : Nat} (hn : BIG ≤ n) : v_FnExactCodewords n = some true := by
  obtain ⟨m, rfl⟩ : ∃ m, n = m + 64 := ⟨n - 64, by unfold BIG at hn; omega⟩
  exact codewords_run m
end Go.Pl

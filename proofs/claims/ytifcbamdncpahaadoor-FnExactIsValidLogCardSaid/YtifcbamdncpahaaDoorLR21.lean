/- Plain laws: R21. -/
import Derived.Test.YtifcbamdncpahaaDoorLLVl
import Derived.Test.YtifcbamdncpahaaDoorPL
set_option linter.unusedVariables false
set_option linter.unusedSimpArgs false
namespace Go.Pl
open Go Go.Tv Go.RowKit
theorem ok_log {l : Lg} (ok : (Ty.pair .str (.pair .str (.int .i64))).ok l) : l.1.size ≤ 9223372036854775807 ∧ l.2.1.size ≤ 9223372036854775807 := ⟨ok_str ok.1, ok_str ok.2.1⟩
theorem s_IsValidLog_eq {n : Nat} (hn : BIG ≤ n) {l : Lg} (hl : l.1.size + l.2.1.size ≤ 1048576) : s_IsValidLog n l = some (logB l) := by
  unfold s_IsValidLog
  rw [s_l12Valid_eq hn hl]; rfl
theorem law_FnExactIsValidLog {n : Nat} (hn : BIG ≤ n) (l : Lg) (ok : (Ty.pair .str (.pair .str (.int .i64))).ok l) : v_FnExactIsValidLog n l = some true := by
  obtain ⟨h1, h2⟩ := ok_log ok
  obtain ⟨k, hk, _, hk2⟩ := v_szLog_eq (n := n) h1 h2
  unfold v_FnExactIsValidLog
  rw [hk, ob_some]
  by_cases h : k < 0
  · rw [decide_eq_true h, br_true]
  · have hl := hk2 h
    rw [decide_eq_false h, br_false]
    simp only [v_toLog_eq, ob_some, s_IsValidLog_eq hn hl, i_IsValidLog_eq hn hl]
    simp
end Go.Pl

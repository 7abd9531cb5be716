/- Plain laws: R34. -/
import Derived.Test.YtkhfihbaopbblaaDoorLR21
set_option linter.unusedVariables false
set_option linter.unusedSimpArgs false
namespace Go.Pl
open Go Go.Tv Go.RowKit
def logRecs (l : Lg) : Bool × List Rec := if logB l = true then (true, recsOf (l.1 ++ l.2.1)) else (false, [])
theorem small_of {l : Lg} (h : logB l = true) : l.1.size + l.2.1.size ≤ 30000 := by
  unfold logB at h
  simp only [Bool.and_eq_true, decide_eq_true_eq] at h
  exact h.1.1.1
theorem i_LogRecords_eq {n : Nat} (hn : BIG ≤ n) {l : Lg} (hl : l.1.size + l.2.1.size ≤ 1048576) : i_LogRecords n l = some (logRecs l) := by
  unfold i_LogRecords logRecs
  rw [i_IsValidLog_eq hn hl, ob_some]
  cases h : logB l with
  | false => rw [if_neg (by simp)]; rfl
  | true =>
    have := small_of h
    rw [Bool.not_true, br_false, ckb_pos (stok_ok (by omega)), lt_eq, i_records_eq hn (by rw [app_size]; omega), if_pos rfl]; rfl
end Go.Pl

/- Plain laws: R11. -/
import Derived.Test.YtklhncjpkkfjmaaLL12
import Derived.Test.YtklhncjpkkfjmaaLL7
set_option linter.unusedVariables false
set_option linter.unusedSimpArgs false
namespace Go.Pl
open Go Go.Tv Go.RowKit

def ptsAhead (t : Tbl) : Int × Bool := if tableB t = true then (w64 (t.2.1 + ((greedyH t.1).2.length : Int)), true) else (0, false)
theorem s_PointsAhead_eq {n : Nat} (hn : BIG ≤ n) {t : Tbl} (hl : t.1.length ≤ 1048576) : s_PointsAhead n t = some (ptsAhead t) := by
  unfold s_PointsAhead ptsAhead
  rw [s_l12Good_eq hn hl]
  cases tableB t with
  | false => simp
  | true => simp [s_GreedyPicking_eq hn hl]
theorem i_PointsAhead_eq {n : Nat} (hn : BIG ≤ n) {t : Tbl} (hl : t.1.length ≤ 1048576) : i_PointsAhead n t = some (ptsAhead t) := by
  unfold i_PointsAhead ptsAhead
  rw [i_IsTable_eq hn hl]
  cases tableB t with
  | false => simp
  | true => simp [i_GreedyPicking_eq hn hl]
theorem law_FnExactPointsAhead {n : Nat} (hn : BIG ≤ n) (t : Tbl) (ok : (Ty.pair (.sl (.arr 4 (.int .i64))) (.pair (.int .i64) (.int .i64))).ok t) : v_FnExactPointsAhead n t = some true := by
  have hl : t.1.length ≤ 9223372036854775807 := ok_table ok
  unfold v_FnExactPointsAhead
  rw [v_szTable_eq (by omega) (by omega)]
  by_cases h1 : (1048576 : Int) - (t.1.length : Int) < 0
  · simp [h1]
  have hl2 : t.1.length ≤ 1048576 := by omega
  have h2 : decide ((1048576 : Int) - (t.1.length : Int) < 0) = false := decide_eq_false h1
  have hs : s_PointsAhead n (t.1, t.2) = some (ptsAhead t) := s_PointsAhead_eq hn hl2
  have hi : i_PointsAhead n (t.1, t.2) = some (ptsAhead t) := i_PointsAhead_eq hn hl2
  rw [if_neg h1]
  simp only [ob_some, h2, br_false, v_toTable_eq hn (t := t) (show t.1.length ≤ 1099511627776 by omega), hs, hi, v_eqTable_eq hn (a := (t.1, t.2)) (show t.1.length ≤ 9223372036854775807 by omega), decide_true, Bool.not_true, beq_self_eq_true]
end Go.Pl

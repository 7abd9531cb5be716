/- Plain laws: R9. -/
import Derived.Test.YtklhncjpkkfjmaaLL12
set_option linter.unusedVariables false
set_option linter.unusedSimpArgs false
namespace Go.Pl
open Go Go.Tv Go.RowKit

def noLog : Lg := (⟨#[]⟩, (⟨#[]⟩, 0))
def newC (t : Tbl) : (Int × Int) × Lg × Bool × List Card := if tableB t = true then (t.2, noLog, true, t.1) else ((0, 0), noLog, false, [])
theorem s_NewConsole_eq {n : Nat} (hn : BIG ≤ n) {t : Tbl} (hl : t.1.length ≤ 1048576) : s_NewConsole n t = some (newC t) := by
  unfold s_NewConsole newC
  rw [s_l12Good_eq hn hl]
  cases hh : tableB t with
  | false => simp [noLog]
  | true => simp [s_l12Own_eq hl, noLog]
theorem i_NewConsole_eq {n : Nat} (hn : BIG ≤ n) {t : Tbl} (hl : t.1.length ≤ 1048576) : i_NewConsole n t = some (newC t) := by
  unfold i_NewConsole newC
  rw [i_IsTable_eq hn hl]
  cases hh : tableB t with
  | false => simp [noLog]
  | true => simp [impl_own_eq hl, noLog]
theorem newC_len {t : Tbl} : (newC t).2.2.2.length ≤ 27 := by
  unfold newC
  split
  · exact hand_len (table_hand (by assumption))
  · simp

theorem law_FnExactNewConsole {n : Nat} (hn : BIG ≤ n) (t : Tbl) (ok : (Ty.pair (.sl (.arr 4 (.int .i64))) (.pair (.int .i64) (.int .i64))).ok t) : v_FnExactNewConsole n t = some true := by
  have hl : t.1.length ≤ 9223372036854775807 := ok_table ok
  unfold v_FnExactNewConsole
  rw [v_szTable_eq (by omega) (by omega)]
  by_cases h1 : (1048576 : Int) - (t.1.length : Int) < 0
  · simp [h1]
  have hl2 : t.1.length ≤ 1048576 := by omega
  have h2 : decide ((1048576 : Int) - (t.1.length : Int) < 0) = false := decide_eq_false h1
  have h27 := newC_len (t := t)
  have e3 : decide ((1 : Int) + 4 * (t.1.length : Int) < 0) = false := decide_eq_false (by omega)
  have e4 : decide ((1 : Int) + 4 * ((newC t).2.2.2.length : Int) < 0) = false := decide_eq_false (by omega)
  have hs : s_NewConsole n (t.1, t.2) = some (newC t) := s_NewConsole_eq hn hl2
  have hi : i_NewConsole n (t.1, t.2) = some (newC t) := i_NewConsole_eq hn hl2
  rw [if_neg h1]
  simp only [ob_some, h2, br_false, v_toTable_eq hn (t := t) (show t.1.length ≤ 1099511627776 by omega), hs, hi, v_eqConsole_eq hn (a := (((newC t).2.2.2, (newC t).1), (newC t).2.1)) (show (newC t).2.2.2.length ≤ 9223372036854775807 by omega),
    v_eqTable_eq hn (a := (t.1, t.2)) (show t.1.length ≤ 9223372036854775807 by omega), decide_true, Bool.not_true, beq_self_eq_true, v_markTable'o_eq hn (l := t.1) (k := 1) (by omega) (by omega), e3,
    v_markConsole'o_eq hn (l := (newC t).2.2.2) (k := 1) (by omega) (by omega), v_heldConsole_eq hn (l := (newC t).2.2.2) (k := 1) (by omega) (by omega), e4]
end Go.Pl

/- Plain laws: R6. -/
import Derived.Test.YtleaogcnndhdgaaLLX1
namespace Go.Pl
open Go Go.Tv Go.RowKit

def newT (h : List Card) : (Int × Int) × Bool × List Card := if hand h = true then ((0, 0), true, h) else ((0, 0), false, [])
theorem s_NewTable_eq {n : Nat} (hn : BIG ≤ n) {h : List Card} (hl : h.length ≤ 1048576) : s_NewTable n h = some (newT h) := by
  unfold s_NewTable newT
  rw [s_l2Hand_eq hn (by omega)]
  cases hh : hand h with
  | false => simp
  | true => simp [s_l2Own_eq hl]
theorem i_NewTable_eq {n : Nat} (hn : BIG ≤ n) {h : List Card} (hl : h.length ≤ 1048576) : i_NewTable n h = some (newT h) := by
  unfold i_NewTable newT
  rw [i_IsHand_eq hn (by omega)]
  cases hh : hand h with
  | false => simp
  | true => simp [slices_Clone_SA4_A4__eq hl]
theorem newT_len {h : List Card} : (newT h).2.2.length ≤ 27 := by
  unfold newT
  split
  · exact hand_len (by assumption)
  · simp

theorem law_FnExactNewTable {n : Nat} (hn : BIG ≤ n) (h : List Card) (ok : (Ty.sl (.arr 4 (.int .i64))).ok h) : v_FnExactNewTable n h = some true := by
  have hl : h.length ≤ 9223372036854775807 := ok_list ok
  unfold v_FnExactNewTable
  rw [v_szIntA4S_eq (by omega) (by omega)]
  by_cases h1 : (1048576 : Int) - (h.length : Int) < 0
  · simp [h1]
  have hl2 : h.length ≤ 1048576 := by omega
  have h2 : decide ((1048576 : Int) - (h.length : Int) < 0) = false := decide_eq_false h1
  have h27 : (newT h).2.2.length ≤ 27 := newT_len
  have e3 : decide ((1 : Int) + 4 * (h.length : Int) < 0) = false := decide_eq_false (by omega)
  have e4 : decide ((1 : Int) + 4 * ((newT h).2.2.length : Int) < 0) = false := decide_eq_false (by omega)
  rw [if_neg h1]
  simp only [ob_some, h2, br_false, v_toIntA4S_eq hn (show h.length ≤ 1099511627776 by omega), s_NewTable_eq hn hl2, i_NewTable_eq hn hl2, v_eqTable_eq hn (a := ((newT h).2.2, (newT h).1)) (show (newT h).2.2.length ≤ 9223372036854775807 by omega),
    v_eqIntA4S_eq hn (show h.length ≤ 9223372036854775807 by omega), decide_true, Bool.not_true, beq_self_eq_true, v_markIntA4S'o_eq hn (l := h) (k := 1) (by omega) (by omega), e3,
    v_markTable'o_eq hn (l := (newT h).2.2) (k := 1) (by omega) (by omega), v_heldTable_eq hn (l := (newT h).2.2) (k := 1) (by omega) (by omega), e4]
end Go.Pl

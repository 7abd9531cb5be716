/- Plain laws: R35. -/
import Derived.Test.YtbkbkaonjhlplaaLLMs
set_option linter.unusedVariables false
set_option linter.unusedSimpArgs false
namespace Go.Pl
open Go Go.Tv Go.RowKit
set_option linter.unusedVariables false

noncomputable def readM (n : Nat) (l : List Card) : Int × Bool × List Int := if l.all isC && decide (l.length ≤ 27) then (((msgOf n l).1 : Int), true, (msgOf n l).2) else (0, false, [])
theorem readM_len {n : Nat} {l : List Card} : (readM n l).2.2.length ≤ 27 := by
  unfold readM
  split
  · rename_i h
    rw [Bool.and_eq_true, decide_eq_true_eq] at h
    have := (msg_go (n := n) l (0, [])).1
    show (List.foldl (msgOp n) (0, []) l).2.length ≤ 27
    rw [this]; simp; omega
  · simp
theorem law_FnExactReadMessage {n : Nat} (hn : BIG ≤ n) (l : List Card) (ok : (Ty.sl (.arr 4 (.int .i64))).ok l) : v_FnExactReadMessage n l = some true := by
  have hl : l.length ≤ 9223372036854775807 := ok_list ok
  unfold v_FnExactReadMessage
  rw [v_szIntA4S_eq (by omega) (by omega), ob_some]
  by_cases h1 : (1048576 : Int) - (l.length : Int) < 0
  · rw [if_pos h1]; rfl
  have hl2 : l.length ≤ 1048576 := by omega
  have hl3 := readM_len (n := n) (l := l)
  have e1 : s_ReadMessage n l = some (readM n l) := s_ReadMessage_eq hn hl2
  have e2 : i_ReadMessage n l = some (readM n l) := i_ReadMessage_eq hn hl2
  have p1 : decide ((1 : Int) + 4 * (l.length : Int) < 0) = false := decide_eq_false (by omega)
  have p2 : decide ((1 : Int) + ((readM n l).2.2.length : Int) < 0) = false := decide_eq_false (by omega)
  rw [if_neg h1, decide_eq_false h1, br_false]
  simp only [v_toIntA4S_eq hn (show l.length ≤ 1099511627776 by omega), ob_some, e1, e2, v_eqIntS_eq hn (show (readM n l).2.2.length ≤ 9223372036854775806 by omega),
    v_eqIntA4S_eq hn hl, v_markIntA4S'o_eq hn (l := l) (k := 1) (by omega) (by omega), v_markIntS'o_eq hn (l := (readM n l).2.2) (k := 1) (by omega) (by omega), v_heldIntS_eq hn (l := (readM n l).2.2) (k := 1) (by omega) (by omega),
    p1, p2, decide_true, Bool.not_true, br_false, br_some, beq_self_eq_true, Bool.false_eq_true, if_false]
end Go.Pl

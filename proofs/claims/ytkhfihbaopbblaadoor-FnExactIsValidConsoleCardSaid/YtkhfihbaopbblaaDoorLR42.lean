/- Plain laws: R42. -/
import Derived.Test.YtkhfihbaopbblaaDoorLR21
set_option linter.unusedVariables false
set_option linter.unusedSimpArgs false
namespace Go.Pl
open Go Go.Tv Go.RowKit
def cnsB (c : Cns) : Bool := tableB c.1 && logB c.2
theorem i_IsValidConsole_eq {n : Nat} (hn : BIG ≤ n) {c : Cns} (h1 : c.1.1.length ≤ 1048576) (h2 : c.2.1.size + c.2.2.1.size ≤ 1048576) : i_IsValidConsole n c = some (cnsB c) := by
  unfold i_IsValidConsole cnsB
  rw [i_IsTable_eq hn h1, i_IsValidLog_eq hn h2]
  cases tableB c.1 <;> rfl
theorem s_IsValidConsole_eq {n : Nat} (hn : BIG ≤ n) {c : Cns} (h1 : c.1.1.length ≤ 1048576) (h2 : c.2.1.size + c.2.2.1.size ≤ 1048576) : s_IsValidConsole n c = some (cnsB c) := by
  unfold s_IsValidConsole cnsB
  rw [s_l12Good_eq hn h1, s_l12Valid_eq hn h2]
  cases tableB c.1 <;> rfl
theorem v_szLog_left {n : Nat} {l : Lg} (h1 : l.1.size ≤ 9223372036854775807) (h2 : l.2.1.size ≤ 9223372036854775807) {left : Int} (q0 : 0 ≤ left) (q1 : left ≤ 1048576) :
    ∃ k, v_szLog n l left = some k ∧ k ≤ 1048576 ∧ (¬ k < 0 → l.1.size + l.2.1.size ≤ 1048576) := by
  unfold v_szLog
  rw [w64_id (by omega), lt_eq]
  by_cases h : left - (l.1.size : Int) < 0
  · rw [decide_eq_true h, br_true]; exact ⟨_, rfl, by omega, fun h => absurd (by omega) h⟩
  rw [decide_eq_false h, br_false, w64_id (by omega), lt_eq]
  by_cases h3 : left - (l.1.size : Int) - (l.2.1.size : Int) < 0
  · rw [decide_eq_true h3, br_true]; exact ⟨_, rfl, by omega, fun h => absurd (by omega) h⟩
  · rw [decide_eq_false h3, br_false]; exact ⟨_, rfl, by omega, fun _ => by omega⟩
theorem v_szConsole_eq {n : Nat} {c : Cns} (ht : c.1.1.length ≤ 9223372036854775807) (h1 : c.2.1.size ≤ 9223372036854775807) (h2 : c.2.2.1.size ≤ 9223372036854775807) :
    ∃ k, v_szConsole n c 1048576 = some k ∧ (¬ k < 0 → c.1.1.length ≤ 1048576 ∧ c.2.1.size + c.2.2.1.size ≤ 1048576) := by
  unfold v_szConsole
  rw [v_szTable_eq ht (by omega), ob_some]
  by_cases h : (1048576 : Int) - (c.1.1.length : Int) < 0
  · rw [if_pos h, decide_eq_true (by omega), br_true]; exact ⟨_, rfl, fun h => absurd (by omega) h⟩
  · rw [if_neg h, decide_eq_false h, br_false]
    obtain ⟨k, hk, _, hk2⟩ := v_szLog_left (n := n) (l := c.2) h1 h2 (left := 1048576 - (c.1.1.length : Int)) (by omega) (by omega)
    rw [hk, ob_some]
    by_cases h3 : k < 0
    · rw [decide_eq_true h3, br_true]; exact ⟨_, rfl, fun h => absurd (by omega) h⟩
    · rw [decide_eq_false h3, br_false]; exact ⟨_, rfl, fun _ => ⟨by omega, hk2 h3⟩⟩
theorem v_toConsole_eq {n : Nat} (hn : BIG ≤ n) {c : Cns} (ht : c.1.1.length ≤ 1048576) : v_toConsole n c = some (c.1.2, c.2, c.1.1) := by
  unfold v_toConsole
  rw [v_toTable_eq hn (by omega), ob_some, v_toLog_eq, ob_some]
theorem law_FnExactIsValidConsole {n : Nat} (hn : BIG ≤ n) (c : Cns) (ok : (Ty.pair (.pair (.sl (.arr 4 (.int .i64))) (.pair (.int .i64) (.int .i64))) (.pair .str (.pair .str (.int .i64)))).ok c) : v_FnExactIsValidConsole n c = some true := by
  have ht : c.1.1.length ≤ 9223372036854775807 := ok_table ok.1
  obtain ⟨h1, h2⟩ := ok_log ok.2
  obtain ⟨k, hk, hk2⟩ := v_szConsole_eq (n := n) ht h1 h2
  unfold v_FnExactIsValidConsole
  rw [hk, ob_some]
  by_cases h : k < 0
  · rw [decide_eq_true h, br_true]
  · obtain ⟨g1, g2⟩ := hk2 h
    rw [decide_eq_false h, br_false]
    have e : ∀ x : Cns, (((x.1.1, x.1.2), x.2) : Cns) = x := fun _ => rfl
    simp only [v_toConsole_eq hn g1, ob_some, e, s_IsValidConsole_eq hn g1 g2, i_IsValidConsole_eq hn g1 g2, v_eqConsole_eq hn (a := c) (b := c) (by omega), beq_self_eq_true, Bool.not_true, br_false, decide_true]
end Go.Pl

/- Plain laws: L12. -/
import Derived.Test.YtkhfihbaopbblaaDoorLLX1
set_option linter.unusedVariables false
set_option linter.unusedSimpArgs false
namespace Go.Pl
open Go Go.Tv Go.RowKit
abbrev Tbl := List Card × (Int × Int)
def tableB (t : Tbl) : Bool := hand t.1 && decide (0 ≤ t.2.1 ∧ t.2.1 ≤ 1000) && decide (0 ≤ t.2.2 ∧ t.2.2 ≤ 1000)
theorem s_l12Good_eq {n : Nat} (hn : BIG ≤ n) {t : Tbl} (hl : t.1.length ≤ 1048576) : s_l12Good n t = some (tableB t) := by
  unfold s_l12Good tableB
  rw [s_l2Hand_eq hn (by omega), s_l1In_eq, s_l1In_eq]
  simp only [ob_some]
  cases hand t.1 <;> cases decide (0 ≤ t.2.1 ∧ t.2.1 ≤ 1000) <;> cases decide (0 ≤ t.2.2 ∧ t.2.2 ≤ 1000) <;> rfl
theorem i_IsTable_eq {n : Nat} (hn : BIG ≤ n) {t : Tbl} (hl : t.1.length ≤ 1048576) : i_IsTable n t = some (tableB t) := by
  unfold i_IsTable tableB
  rw [i_IsHand_eq hn (by omega), i_within_eq, i_within_eq]
  simp only [ob_some]
  cases hand t.1 <;> cases decide (0 ≤ t.2.1 ∧ t.2.1 ≤ 1000) <;> cases decide (0 ≤ t.2.2 ∧ t.2.2 ≤ 1000) <;> rfl
theorem v_szTable_eq {n : Nat} {t : Tbl} {left : Int} (hl : t.1.length ≤ 9223372036854775807) (h : 0 ≤ left ∧ left ≤ 9223372036854775807) : v_szTable n t left = some (if left - t.1.length < 0 then -1 else left - t.1.length) := by
  unfold v_szTable
  rw [v_szIntA4S_eq hl h]
  by_cases h1 : left - (t.1.length : Int) < 0 <;> simp [h1]
theorem v_toTable_eq {n : Nat} (hn : BIG ≤ n) {t : Tbl} (hl : t.1.length ≤ 1099511627776) : v_toTable n t = some (t.2, t.1) := by
  unfold v_toTable
  rw [v_toIntA4S_eq hn hl]; rfl
abbrev Lg := ByteArray × (ByteArray × Int)
abbrev Cns := Tbl × Lg
theorem v_eqLog_eq {n : Nat} (a b : Lg) : v_eqLog n a b = some (decide (a = b)) := by
  obtain ⟨a0, a1, a2⟩ := a
  obtain ⟨b0, b1, b2⟩ := b
  unfold v_eqLog
  by_cases h0 : a0 = b0 <;> by_cases h1 : a1 = b1 <;> by_cases h2 : a2 = b2 <;> simp [eqd, h0, h1, h2]
theorem v_eqConsole_eq {n : Nat} (hn : BIG ≤ n) {a b : Cns} (hl : a.1.1.length ≤ 9223372036854775807) : v_eqConsole n a b = some (decide (a = b)) := by
  obtain ⟨a0, a1⟩ := a
  obtain ⟨b0, b1⟩ := b
  unfold v_eqConsole
  rw [v_eqTable_eq hn hl, v_eqLog_eq]
  by_cases h0 : a0 = b0 <;> by_cases h1 : a1 = b1 <;> simp [h0, h1]
theorem ok_table {t : Tbl} (ok : (Ty.pair (.sl (.arr 4 (.int .i64))) (.pair (.int .i64) (.int .i64))).ok t) : t.1.length ≤ 9223372036854775807 := ok_list ok.1
end Go.Pl

/- Plain laws: R51. -/
import Derived.Test.YtbkbkaonjhlplaaGreatLLDo2
set_option linter.unusedVariables false
set_option linter.unusedSimpArgs false
namespace Go.Pl
open Go Go.Tv Go.RowKit
set_option linter.unusedVariables false
set_option linter.unusedSimpArgs false

theorem v_toFeat_eq (n : Nat) (f : Ft) : v_toFeat n f = some f := rfl
theorem doFeat_eq {n : Nat} (hn : BIG ≤ n) {t : Tbl} (hl : t.1.length ≤ 1048576) (f : Ft) : ∃ r, i_DoFeat n t f = some r ∧ s_DoFeat n t f = some r ∧ r.2.2.length ≤ 27 := by
  unfold i_DoFeat s_DoFeat
  rw [i_IsTable_eq hn hl, ob_some, s_l12Good_eq hn hl, ob_some]
  cases ht : tableB t with
  | false => exact ⟨((0, 0), false, []), rfl, rfl, by simp⟩
  | true =>
    obtain ⟨ok, u, ⟨y, ei, hy⟩, es, hg⟩ := do_ok hn ht f
    rw [Bool.not_true, br_false, br_false, ei, es, ob_some, ob_some]
    cases ok with
    | false => exact ⟨((0, 0), false, []), rfl, rfl, by simp⟩
    | true =>
      have := hy rfl
      subst this
      have hh := hand_len (table_hand (hg rfl))
      simp only [Bool.not_true, br_false]
      rw [impl_own_eq (by omega)]
      exact ⟨(y.2, true, y.1), rfl, rfl, hh⟩
theorem law_FnExactDoFeat {n : Nat} (hn : BIG ≤ n) (t : Tbl) (ok1 : (Ty.pair (.sl (.arr 4 (.int .i64))) (.pair (.int .i64) (.int .i64))).ok t) (f : Ft) (ok2 : (Ty.pair (.int .i64) (.pair (.int .i64) (.pair (.int .i64) (.int .i64)))).ok f) : v_FnExactDoFeat n t f = some true := by
  have hl := ok_table ok1
  unfold v_FnExactDoFeat
  rw [v_szTable_eq (by omega) (by omega), ob_some]
  by_cases h1 : (1048576 : Int) - (t.1.length : Int) < 0
  · simp [h1]
  have hl2 : t.1.length ≤ 1048576 := by omega
  obtain ⟨r, ei, es, rl⟩ := doFeat_eq hn hl2 f
  obtain ⟨t1, t2⟩ := t
  obtain ⟨r1, r2, r3⟩ := r
  have hl2 : t1.length ≤ 1048576 := hl2
  have rl : r3.length ≤ 27 := rl
  have e3 : decide ((1 : Int) + 4 * (t1.length : Int) < 0) = false := decide_eq_false (by omega)
  have e4 : decide ((1 : Int) + 4 * (r3.length : Int) < 0) = false := decide_eq_false (by omega)
  rw [if_neg h1, br_neg (decide_eq_false h1)]
  simp only [v_toTable_eq hn (t := (t1, t2)) (show t1.length ≤ 1099511627776 by omega), ob_some, v_toFeat_eq, ei, es, v_eqTable_eq hn (a := (r3, r1)) (show r3.length ≤ 9223372036854775807 by omega), v_eqTable_eq hn (a := (t1, t2)) (show t1.length ≤ 9223372036854775807 by omega), decide_true, Bool.not_true, br_false, beq_self_eq_true,
    v_markTable'o_eq hn (l := t1) (k := 1) (by omega) (by omega), e3, v_markTable'o_eq hn (l := r3) (k := 1) (by omega) (by omega), v_heldTable_eq hn (l := r3) (k := 1) (by omega) (by omega), e4]
end Go.Pl

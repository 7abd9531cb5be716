/- Plain laws: R52. -/
import Derived.Test.YtbkbkaonjhlplaaGreatLR51
import Derived.Test.YtbkbkaonjhlplaaGreatLLX4
set_option linter.unusedVariables false
set_option linter.unusedSimpArgs false
namespace Go.Pl
open Go Go.Tv Go.RowKit
set_option linter.unusedVariables false
set_option linter.unusedSimpArgs false

theorem doFeats_go {n : Nat} (hn : BIG ≤ n) {fs : List Ft} (hl : fs.length ≤ 1048576) : ∀ (m i : Nat) (t : Tbl), fs.length - i = m → i ≤ fs.length → tableB t = true → ∀ j k, m < j → m < k →
    ∃ r, fx (i_DoFeats_L2 n) j ((i : Int), fs, (fs.length : Int), (i : Int), (0, 0), t.1, t.2) = some r ∧ fx (s_DoFeats_L1 n) k (fs, (i : Int), (0, 0), t.2, t.1) = some r ∧ r.2.2.2.length ≤ 27
  | 0, i, t, hm, hi, ht, j + 1, k + 1, hj, hk => by
    have hh := hand_len (table_hand ht)
    have : i = fs.length := by omega
    subst this
    rw [fx_succ, fx_succ]
    simp only [i_DoFeats_L2, s_DoFeats_L1]
    rw [br_neg (decide_eq_false (by omega))]
    unfold i_DoFeats_J1
    rw [impl_own_eq (t := (t.1, t.2)) (by simp only []; omega)]
    rw [br_neg (decide_eq_false (by omega))]
    exact ⟨_, rfl, rfl, hh⟩
  | m + 1, i, t, hm, hi, ht, j + 1, k + 1, hj, hk => by
    have hh := hand_len (table_hand ht)
    have hlt : i < fs.length := by omega
    obtain ⟨ok, u, ⟨y, ei, hy⟩, es, hg⟩ := do_ok hn ht (gl (0, (0, (0, 0))) fs i)
    rw [fx_succ, fx_succ]
    simp only [i_DoFeats_L2, s_DoFeats_L1, lt_eq]
    have ei : _impl_Table__do'k n (t.1, t.2) (gl (0, (0, (0, 0))) fs i) = some (y, ok) := ei
    have es : s_l12Do n (t.1, t.2) (gl (0, (0, (0, 0))) fs i) = _ := es
    rw [br_pos (decide_eq_true (show (i : Int) < (fs.length : Int) by omega)), br_pos (decide_eq_true (show (i : Int) < (fs.length : Int) by omega)), ckb_pos (inb_ok hlt), ckb_pos (inb_ok hlt), toNat_cast, ei, es, ob_some, ob_some, w64_succ (by omega)]
    cases ok with
    | false =>
      unfold i_DoFeats_J1
      simp only [Bool.not_false, br_true]
      rw [impl_own_eq (t := (t.1, t.2)) (by simp only []; omega)]
      exact ⟨_, rfl, rfl, hh⟩
    | true =>
      have := hy rfl
      subst this
      exact doFeats_go hn hl m (i + 1) y (by omega) (by omega) (hg rfl) j k (by omega) (by omega)
  | 0, _, _, _, _, _, 0, _, hj, _ => by omega
  | 0, _, _, _, _, _, _ + 1, 0, _, hk => by omega
  | _ + 1, _, _, _, _, _, 0, _, hj, _ => by omega
  | _ + 1, _, _, _, _, _, _ + 1, 0, _, hk => by omega
theorem doFeats_eq {n : Nat} (hn : BIG ≤ n) {t : Tbl} (hl : t.1.length ≤ 1048576) {fs : List Ft} (hf : fs.length ≤ 1048576) : ∃ r, i_DoFeats n t fs = some r ∧ s_DoFeats n t fs = some r ∧ r.2.2.2.length ≤ 27 := by
  unfold i_DoFeats s_DoFeats
  rw [i_IsTable_eq hn hl, ob_some, s_l12Good_eq hn hl, ob_some]
  cases ht : tableB t with
  | false => exact ⟨((0, 0), 0, false, []), rfl, rfl, by simp⟩
  | true =>
    rw [Bool.not_true, br_false, br_false, impl_own_eq hl, s_l12Own_eq hl, ob_some, ob_some]
    exact doFeats_go hn hf fs.length 0 t (by omega) (Nat.zero_le _) ht n n (big_gt hn (by omega)) (big_gt hn (by omega))
theorem law_FnExactDoFeats {n : Nat} (hn : BIG ≤ n) (t : Tbl) (ok1 : (Ty.pair (.sl (.arr 4 (.int .i64))) (.pair (.int .i64) (.int .i64))).ok t) (fs : List Ft) (ok2 : (Ty.sl (.pair (.int .i64) (.pair (.int .i64) (.pair (.int .i64) (.int .i64))))).ok fs) : v_FnExactDoFeats n t fs = some true := by
  have hl := ok_table ok1
  have hlf : fs.length ≤ 9223372036854775807 := ok_list ok2
  unfold v_FnExactDoFeats
  rw [v_szTable_eq (by omega) (by omega), ob_some]
  by_cases h1 : (1048576 : Int) - (t.1.length : Int) < 0
  · simp [h1]
  have hl2 : t.1.length ≤ 1048576 := by omega
  rw [if_neg h1, br_neg (decide_eq_false h1), v_szFeatS_eq hlf (by omega), ob_some]
  by_cases h2 : (1048576 : Int) - (t.1.length : Int) - (fs.length : Int) < 0
  · simp [h2]
  have hf2 : fs.length ≤ 1048576 := by omega
  obtain ⟨r, ei, es, rl⟩ := doFeats_eq hn hl2 hf2
  obtain ⟨t1, t2⟩ := t
  obtain ⟨r1, r2, r3, r4⟩ := r
  have hl2 : t1.length ≤ 1048576 := hl2
  have rl : r4.length ≤ 27 := rl
  have e3 : decide ((1 : Int) + 4 * (t1.length : Int) + 4 * (fs.length : Int) < 0) = false := decide_eq_false (by omega)
  have e4 : decide ((1 : Int) + 4 * (r4.length : Int) < 0) = false := decide_eq_false (by omega)
  rw [if_neg h2, br_neg (decide_eq_false h2)]
  simp only [v_toTable_eq hn (t := (t1, t2)) (show t1.length ≤ 1099511627776 by omega), ob_some, v_toFeatS_eq hn hf2, v_eqFeatS_self hn hf2, ei, es, v_eqTable_eq hn (a := (r4, r1)) (show r4.length ≤ 9223372036854775807 by omega), v_eqTable_eq hn (a := (t1, t2)) (show t1.length ≤ 9223372036854775807 by omega), decide_true, Bool.not_true, br_false, beq_self_eq_true,
    v_markTable'o_eq hn (l := t1) (k := 1) (by omega) (by omega), v_markFeatS'o_eq hn (l := fs) (k := 1 + 4 * (t1.length : Int)) (by omega) (by omega), e3, v_markTable'o_eq hn (l := r4) (k := 1) (by omega) (by omega), v_heldTable_eq hn (l := r4) (k := 1) (by omega) (by omega), e4]
end Go.Pl

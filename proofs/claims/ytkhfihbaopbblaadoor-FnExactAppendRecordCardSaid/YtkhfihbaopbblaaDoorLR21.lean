/- Plain laws: R21. -/
import Derived.Test.YtkhfihbaopbblaaDoorLLVl
import Derived.Test.YtkhfihbaopbblaaDoorPL
set_option linter.unusedVariables false
set_option linter.unusedSimpArgs false
namespace Go.Pl
open Go Go.Tv Go.RowKit
theorem ok_log {l : Lg} (ok : (Ty.pair .str (.pair .str (.int .i64))).ok l) : l.1.size ≤ 9223372036854775807 ∧ l.2.1.size ≤ 9223372036854775807 := ⟨ok_str ok.1, ok_str ok.2.1⟩
def appd (l : Lg) (e : Rec) : Lg × Int := if ¬ (logB l = true ∧ recB e = true) then (l, 1) else if l.2.2 = 60 then (l, 2) else ((l.1, (l.2.1 ++ mk (lineL l.2.2 (bl e.1) (bl e.2)), l.2.2 + 1)), 0)
theorem log_count {l : Lg} (h : logB l = true) : 0 ≤ l.2.2 ∧ l.2.2 ≤ 60 := by
  unfold logB at h
  simp only [Bool.and_eq_true, decide_eq_true_eq] at h
  have := recs_len (l.1 ++ l.2.1)
  omega
theorem line_len {k : Int} (k0 : 0 ≤ k) (k1 : k ≤ 59) {e : Rec} (h : recB e = true) : (lineL k (bl e.1) (bl e.2)).length ≤ 600 := by
  obtain ⟨p1, p2⟩ := rec_parts h
  have q1 := plain_len p1
  have q2 := plain_len p2
  have h6 := num_len6 k0 (by omega)
  have hs := seal_len (numL k ++ 32 :: (bl e.1 ++ 64 :: bl e.2))
  unfold lineL
  simp only [List.length_append, List.length_cons, List.length_nil, bl_len] at hs ⊢
  omega
theorem s_AppendRecord_eq {n : Nat} (hn : BIG ≤ n) {l : Lg} (hl : l.1.size + l.2.1.size ≤ 1048576) {e : Rec} (h1 : e.1.size ≤ 9223372036854775807) (h2 : e.2.size ≤ 9223372036854775807) : s_AppendRecord n l e = some (appd l e) := by
  unfold s_AppendRecord appd
  rw [s_l12Valid_eq hn hl, ob_some]
  cases h : logB l with
  | false => rw [if_pos (by simp)]; rfl
  | true =>
    rw [Bool.not_true, br_false, s_l12Record_eq hn h1 h2, ob_some, ob_some]
    cases hr : recB e with
    | false => rw [if_pos (by simp)]; rfl
    | true =>
      obtain ⟨c0, c1⟩ := log_count h
      obtain ⟨p1, p2⟩ := rec_parts hr
      have q1 := plain_len p1
      have q2 := plain_len p2
      rw [Bool.not_true, br_false, if_neg (by simp)]
      by_cases h60 : l.2.2 = 60
      · rw [decide_eq_true h60, br_true, if_pos h60]
      · have hlen := line_len c0 (by omega) hr
        rw [decide_eq_false h60, br_false, if_neg h60, s_l12Line_eq hn c0 (by omega) (by omega) (by omega), ob_some, ckb_pos (stok_ok (by rw [mk_size]; omega)), lt_eq, lt_eq]
        dsimp only
        rw [w64_id (by omega)]; rfl
theorem i_AppendRecord_eq {n : Nat} (hn : BIG ≤ n) {l : Lg} (hl : l.1.size + l.2.1.size ≤ 1048576) {e : Rec} (h1 : e.1.size ≤ 9223372036854775807) (h2 : e.2.size ≤ 9223372036854775807) : i_AppendRecord n l e = some (appd l e) := by
  unfold i_AppendRecord appd
  rw [i_IsValidLog_eq hn hl, ob_some]
  cases h : logB l with
  | false => rw [if_pos (by simp)]; rfl
  | true =>
    rw [Bool.not_true, br_false, i_IsValidRecord_eq hn h1 h2, ob_some, ob_some]
    cases hr : recB e with
    | false => rw [if_pos (by simp)]; rfl
    | true =>
      obtain ⟨c0, c1⟩ := log_count h
      rw [Bool.not_true, br_false, if_neg (by simp)]
      by_cases h60 : l.2.2 = 60
      · rw [decide_eq_true h60, br_true, if_pos h60]
      · have hlen := line_len c0 (by omega) hr
        rw [decide_eq_false h60, br_false, if_neg h60, i_EncodeRecord_eq hn h1 h2, ob_some]
        unfold encB
        rw [if_pos ⟨c0, by omega, hr⟩]
        dsimp only
        rw [ckb_pos (stok_ok (by rw [mk_size]; omega)), lt_eq, w64_id (by omega)]; rfl
theorem law_FnExactAppendRecord {n : Nat} (hn : BIG ≤ n) (l : Lg) (ok : (Ty.pair .str (.pair .str (.int .i64))).ok l) (e : Rec) (ok2 : (Ty.pair .str .str).ok e) : v_FnExactAppendRecord n l e = some true := by
  obtain ⟨h1, h2⟩ := ok_log ok
  have g1 : e.1.size ≤ 9223372036854775807 := ok_str ok2.1
  have g2 : e.2.size ≤ 9223372036854775807 := ok_str ok2.2
  obtain ⟨k, hk, hk1, hk2⟩ := v_szLog_eq (n := n) h1 h2
  unfold v_FnExactAppendRecord
  rw [hk, ob_some]
  by_cases h : k < 0
  · rw [decide_eq_true h, br_true]
  · have hl := hk2 h
    rw [decide_eq_false h, br_false]
    have hz : ∃ z, v_szLogRecord n e k = some z := by
      unfold v_szLogRecord
      simp only [lt_eq]
      cases decide (w64 (k - (e.1.size : Int)) < 0) with
      | true => exact ⟨_, rfl⟩
      | false =>
        simp only [br_false]
        cases decide (w64 (w64 (k - (e.1.size : Int)) - (e.2.size : Int)) < 0) <;> exact ⟨_, rfl⟩
    obtain ⟨z, hz⟩ := hz
    rw [hz, ob_some]
    cases decide (z < 0) with
    | true => rfl
    | false =>
      rw [br_false]
      simp only [v_toLog_eq, v_toLogRecord_eq, ob_some, s_AppendRecord_eq hn hl g1 g2, i_AppendRecord_eq hn hl g1 g2, v_eqLog_eq]
      simp
end Go.Pl

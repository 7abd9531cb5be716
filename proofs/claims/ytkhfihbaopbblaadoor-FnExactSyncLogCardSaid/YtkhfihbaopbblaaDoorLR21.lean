/- Plain laws: R21. -/
import Derived.Test.YtkhfihbaopbblaaDoorLLVl
import Derived.Test.YtkhfihbaopbblaaDoorPL
set_option linter.unusedVariables false
set_option linter.unusedSimpArgs false
namespace Go.Pl
open Go Go.Tv Go.RowKit
theorem ok_log {l : Lg} (ok : (Ty.pair .str (.pair .str (.int .i64))).ok l) : l.1.size ≤ 9223372036854775807 ∧ l.2.1.size ≤ 9223372036854775807 := ⟨ok_str ok.1, ok_str ok.2.1⟩
def sync (l : Lg) : Lg × Bool := if logB l = true then ((l.1 ++ l.2.1, (⟨#[]⟩, l.2.2)), true) else ((⟨#[]⟩, (⟨#[]⟩, 0)), false)
theorem s_SyncLog_eq {n : Nat} (hn : BIG ≤ n) {l : Lg} (hl : l.1.size + l.2.1.size ≤ 1048576) : s_SyncLog n l = some (sync l) := by
  unfold s_SyncLog sync
  rw [s_l12Valid_eq hn hl, ob_some]
  cases h : logB l with
  | false => rw [if_neg (by simp)]; rfl
  | true => rw [Bool.not_true, br_false, ckb_pos (stok_ok (by omega)), if_pos rfl]; rfl
theorem i_SyncLog_eq {n : Nat} (hn : BIG ≤ n) {l : Lg} (hl : l.1.size + l.2.1.size ≤ 1048576) : i_SyncLog n l = some (sync l) := by
  unfold i_SyncLog sync
  rw [i_IsValidLog_eq hn hl, ob_some]
  cases h : logB l with
  | false => rw [if_neg (by simp)]; rfl
  | true => rw [Bool.not_true, br_false, ckb_pos (stok_ok (by omega)), if_pos rfl]; rfl
theorem law_FnExactSyncLog {n : Nat} (hn : BIG ≤ n) (l : Lg) (ok : (Ty.pair .str (.pair .str (.int .i64))).ok l) : v_FnExactSyncLog n l = some true := by
  obtain ⟨h1, h2⟩ := ok_log ok
  obtain ⟨k, hk, _, hk2⟩ := v_szLog_eq (n := n) h1 h2
  unfold v_FnExactSyncLog
  rw [hk, ob_some]
  by_cases h : k < 0
  · rw [decide_eq_true h, br_true]
  · have hl := hk2 h
    rw [decide_eq_false h, br_false]
    simp only [v_toLog_eq, ob_some, s_SyncLog_eq hn hl, i_SyncLog_eq hn hl, v_eqLog_eq]
    simp
end Go.Pl

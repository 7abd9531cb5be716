/- Plain laws: R15. -/
import Derived.Test.YtifcbamdncpahaaDoorLLRec
import Derived.Test.YtifcbamdncpahaaDoorPL
set_option linter.unusedVariables false
set_option linter.unusedSimpArgs false
namespace Go.Pl
open Go Go.Tv Go.RowKit
theorem eqd_self {α : Type} [DecidableEq α] (a : α) : eqd a a = true := decide_eq_true rfl
theorem v_szLogRecord_eq {n : Nat} (r : Rec) : ∃ k, v_szLogRecord n r 1048576 = some k := by
  unfold v_szLogRecord
  simp only [lt_eq]
  cases decide (w64 (1048576 - (r.1.size : Int)) < 0) with
  | true => exact ⟨_, rfl⟩
  | false =>
    simp only [br_false]
    cases decide (w64 (w64 (1048576 - (r.1.size : Int)) - (r.2.size : Int)) < 0) <;> exact ⟨_, rfl⟩
theorem law_FnExactEncodeRecord {n : Nat} (hn : BIG ≤ n) (k : Int) (ok1 : (Ty.int .i64).ok k) (r : Rec) (ok : (Ty.pair .str .str).ok r) : v_FnExactEncodeRecord n k r = some true := by
  have h1 : r.1.size ≤ 9223372036854775807 := ok_str ok.1
  have h2 : r.2.size ≤ 9223372036854775807 := ok_str ok.2
  unfold v_FnExactEncodeRecord
  obtain ⟨z, hz⟩ := v_szLogRecord_eq (n := n) r
  simp only [hz, ob_some, v_toLogRecord_eq, s_EncodeRecord_eq hn h1 h2, i_EncodeRecord_eq hn h1 h2, eqd_self, beq_self_eq_true, Bool.not_true, br_false, br_self]
end Go.Pl

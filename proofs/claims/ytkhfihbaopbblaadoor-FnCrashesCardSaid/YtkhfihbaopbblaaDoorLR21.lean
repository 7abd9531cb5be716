/- Plain laws: R21. -/
import Derived.Test.YtkhfihbaopbblaaDoorLLVl
import Derived.Test.YtkhfihbaopbblaaDoorPL
set_option linter.unusedVariables false
set_option linter.unusedSimpArgs false
namespace Go.Pl
open Go Go.Tv Go.RowKit
def sync (l : Lg) : Lg × Bool := if logB l = true then ((l.1 ++ l.2.1, (⟨#[]⟩, l.2.2)), true) else ((⟨#[]⟩, (⟨#[]⟩, 0)), false)
theorem s_SyncLog_eq {n : Nat} (hn : BIG ≤ n) {l : Lg} (hl : l.1.size + l.2.1.size ≤ 1048576) : s_SyncLog n l = some (sync l) := by
  unfold s_SyncLog sync
  rw [s_l12Valid_eq hn hl, ob_some]
  cases h : logB l with
  | false => rw [if_neg (by simp)]; rfl
  | true => rw [Bool.not_true, br_false, ckb_pos (stok_ok (by omega)), if_pos rfl]; rfl
def appd (l : Lg) (e : Rec) : Lg × Int := if ¬ (logB l = true ∧ recB e = true) then (l, 1) else if l.2.2 = 60 then (l, 2) else ((l.1, (l.2.1 ++ mk (lineL l.2.2 (bl e.1) (bl e.2)), l.2.2 + 1)), 0)
theorem log_count {l : Lg} (h : logB l = true) : 0 ≤ l.2.2 ∧ l.2.2 ≤ 60 := by
  unfold logB at h
  simp only [Bool.and_eq_true, decide_eq_true_eq] at h
  have := recs_len (l.1 ++ l.2.1)
  omega
theorem line_len {k : Int} (k0 : 0 ≤ k) (k1 : k ≤ 59) {e : Rec} (h : recB e = true) : (lineL k (bl e.1) (bl e.2)).length ≤ 600 := by
  obtain ⟨p1, p2⟩ := rec_parts h
  have q1 := plain_len p1
  have q2 := plain_len p2
  have h6 := num_len6 k0 (by omega)
  have hs := seal_len (numL k ++ 32 :: (bl e.1 ++ 64 :: bl e.2))
  unfold lineL
  simp only [List.length_append, List.length_cons, List.length_nil, bl_len] at hs ⊢
  omega
theorem s_AppendRecord_eq {n : Nat} (hn : BIG ≤ n) {l : Lg} (hl : l.1.size + l.2.1.size ≤ 1048576) {e : Rec} (h1 : e.1.size ≤ 9223372036854775807) (h2 : e.2.size ≤ 9223372036854775807) : s_AppendRecord n l e = some (appd l e) := by
  unfold s_AppendRecord appd
  rw [s_l12Valid_eq hn hl, ob_some]
  cases h : logB l with
  | false => rw [if_pos (by simp)]; rfl
  | true =>
    rw [Bool.not_true, br_false, s_l12Record_eq hn h1 h2, ob_some, ob_some]
    cases hr : recB e with
    | false => rw [if_pos (by simp)]; rfl
    | true =>
      obtain ⟨c0, c1⟩ := log_count h
      obtain ⟨p1, p2⟩ := rec_parts hr
      have q1 := plain_len p1
      have q2 := plain_len p2
      rw [Bool.not_true, br_false, if_neg (by simp)]
      by_cases h60 : l.2.2 = 60
      · rw [decide_eq_true h60, br_true, if_pos h60]
      · have hlen := line_len c0 (by omega) hr
        rw [decide_eq_false h60, br_false, if_neg h60, s_l12Line_eq hn c0 (by omega) (by omega) (by omega), ob_some, ckb_pos (stok_ok (by rw [mk_size]; omega)), lt_eq, lt_eq]
        dsimp only
        rw [w64_id (by omega)]; rfl
end Go.Pl

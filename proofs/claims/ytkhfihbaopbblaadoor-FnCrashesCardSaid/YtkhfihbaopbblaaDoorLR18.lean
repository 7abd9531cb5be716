/- Plain laws: R18. -/
import Derived.Test.YtkhfihbaopbblaaDoorLLVl
set_option linter.unusedVariables false
set_option linter.unusedSimpArgs false
namespace Go.Pl
open Go Go.Tv Go.RowKit
def recov (s : ByteArray) : Lg × Int × Bool := if 30000 < s.size then ((⟨#[]⟩, (⟨#[]⟩, 0)), 0, false) else ((ssub s 0 (enc 0 (recsOf s)).length, (⟨#[]⟩, ((recsOf s).length : Int))), ((enc 0 (recsOf s)).length : Int), true)
theorem enc_le (s : ByteArray) : (enc 0 (recsOf s)).length ≤ s.size := by
  obtain ⟨r, h⟩ := opn_pre 60 0 (bl s) (by omega)
  have := congrArg List.length h
  rw [List.length_append, bl_len] at this
  unfold recsOf
  omega
theorem s_RecoverLog_eq {n : Nat} (hn : BIG ≤ n) {s : ByteArray} (hs : s.size ≤ 1048576) : s_RecoverLog n s = some (recov s) := by
  unfold s_RecoverLog recov
  have he := enc_le s
  by_cases h : (30000 : Int) < (s.size : Int)
  · rw [decide_eq_true h, br_true, if_pos (by omega)]; rfl
  · rw [decide_eq_false h, br_false, if_neg (by omega), s_l12Open_eq hn (by omega), ob_some]
    dsimp only
    unfold recsOf at *
    rw [ckb_pos (slb_ok (by omega) (by omega) (by omega)), toNat_cast]; rfl
theorem i_RecoverLog_eq {n : Nat} (hn : BIG ≤ n) {s : ByteArray} (hs : s.size ≤ 1048576) : i_RecoverLog n s = some (recov s) := by
  unfold i_RecoverLog recov
  have he := enc_le s
  have hr := recs_len s
  by_cases h : (30000 : Int) < (s.size : Int)
  · rw [decide_eq_true h, br_true, if_pos (by omega)]; rfl
  · rw [decide_eq_false h, br_false, if_neg (by omega), i_records_eq hn (by omega), ob_some]
    dsimp only
    rw [endsAll_eq, endsAll_len]
    have e0 : opn 60 0 (bl s) = recsOf s := rfl
    rw [e0]
    have e1 : w64 ((((recsOf s).length + 1 : Nat) : Int) - 1) = ((recsOf s).length : Int) := by rw [w64_id (by omega)]; omega
    rw [e1, lt_eq, ckb_pos (inb_ok (by omega)), toNat_cast, endsAll_last, ckb_pos (slb_ok (by omega) (by omega) (by omega)), toNat_cast]; rfl
end Go.Pl

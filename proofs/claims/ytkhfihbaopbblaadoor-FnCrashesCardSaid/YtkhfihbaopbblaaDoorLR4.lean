/- Plain laws: R4. -/
import Derived.Test.YtkhfihbaopbblaaDoorLL1
set_option linter.unusedVariables false
set_option linter.unusedSimpArgs false
namespace Go.Pl
open Go Go.Tv Go.RowKit
abbrev Rec := ByteArray × ByteArray
def cmdB (s : ByteArray) : Bool := !decide (s = ⟨#[]⟩) && plainB s 160 && !stands s 64
def recB (r : Rec) : Bool := cmdB r.1 && plainB r.2 280
theorem i_isCommand_eq {n : Nat} (hn : BIG ≤ n) {s : ByteArray} (hl : s.size ≤ 9223372036854775807) : i_isCommand n s = some (cmdB s) := by
  unfold i_isCommand cmdB
  have := contains_one (n := n) s 64
  unfold one at this
  rw [i_isPlain_eq hn hl, this]
  simp only [ob_some, eqd]
  have e : ((64 : UInt8).toNat : Int) = 64 := rfl
  rw [e]
  cases decide (s = (⟨#[]⟩ : ByteArray)) <;> cases plainB s 160 <;> cases stands s 64 <;> rfl
theorem i_IsValidRecord_eq {n : Nat} (hn : BIG ≤ n) {r : Rec} (h1 : r.1.size ≤ 9223372036854775807) (h2 : r.2.size ≤ 9223372036854775807) : i_IsValidRecord n r = some (recB r) := by
  unfold i_IsValidRecord recB
  rw [i_isCommand_eq hn h1, i_isPlain_eq hn h2]
  simp only [ob_some]
  cases cmdB r.1 <;> cases plainB r.2 280 <;> rfl
theorem s_l12Record_eq {n : Nat} (hn : BIG ≤ n) {r : Rec} (h1 : r.1.size ≤ 9223372036854775807) (h2 : r.2.size ≤ 9223372036854775807) : s_l12Record n r = some (recB r) := by
  unfold s_l12Record recB cmdB
  rw [s_l12Bytes_eq hn h1, s_l12Bytes_eq hn h2, s_l1Stands_eq hn h1]
  simp only [ob_some, eqd]
  cases decide (r.1 = (⟨#[]⟩ : ByteArray)) <;> cases plainB r.1 160 <;> cases stands r.1 64 <;> cases plainB r.2 280 <;> rfl
end Go.Pl

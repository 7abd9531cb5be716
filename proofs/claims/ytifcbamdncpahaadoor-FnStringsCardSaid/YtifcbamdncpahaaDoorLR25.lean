/- Plain laws: R25. -/
import Derived.Test.YtifcbamdncpahaaDoorLR21
set_option linter.unusedVariables false
set_option linter.unusedSimpArgs false
namespace Go.Pl
open Go Go.Tv Go.RowKit
theorem bl_strOf (xs : List Int) : bl (strOfNums xs) = xs.map fun n => UInt8.ofNat n.toNat := rfl
theorem sbytes_eq (s : ByteArray) : sbytes s = (bl s).map fun b => (b.toNat : Int) := rfl
theorem sbytes_len (s : ByteArray) : (sbytes s).length = s.size := by rw [sbytes_eq, List.length_map, bl_len]
end Go.Pl

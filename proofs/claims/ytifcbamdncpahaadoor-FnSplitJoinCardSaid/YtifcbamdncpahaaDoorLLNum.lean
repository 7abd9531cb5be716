/- Plain laws: LNum. -/
import Derived.Test.YtifcbamdncpahaaDoorLL1
import Derived.Lib.ItoaNum
set_option linter.unusedVariables false
set_option linter.unusedSimpArgs false
namespace Go.Pl
open Go Go.Tv Go.RowKit
def mk (l : List UInt8) : ByteArray := ⟨l.toArray⟩
@[simp] theorem bl_mk (l : List UInt8) : bl (mk l) = l := by simp [bl, mk]
@[simp] theorem mk_bl (s : ByteArray) : mk (bl s) = s := by simp [bl, mk]
theorem bl_inj {a b : ByteArray} (h : bl a = bl b) : a = b := by rw [← mk_bl a, ← mk_bl b, h]
@[simp] theorem bl_app (a b : ByteArray) : bl (a ++ b) = bl a ++ bl b := by
  simp [bl, ByteArray.data_append]
@[simp] theorem mk_size (l : List UInt8) : (mk l).size = l.length := by rw [← bl_len, bl_mk]
theorem app_size (a b : ByteArray) : (a ++ b).size = a.size + b.size := by rw [← bl_len, bl_app, List.length_append, bl_len, bl_len]
theorem eqd_str (a b : ByteArray) : eqd a b = decide (a = b) := rfl
theorem stok_ok {k : Nat} (h : k ≤ 1125899906842624) : stok k = true := decide_eq_true (by unfold maxLen; omega)
theorem bl_ssub (s : ByteArray) (lo hi : Nat) : bl (ssub s lo hi) = ((bl s).drop lo).take (hi - lo) := by
  unfold ssub bl
  rw [ByteArray.data_extract]
  simp
end Go.Pl

/- What this seat's program has as types, told to the AV layer. PRINTED BY PROGRAM (gen). -/
import Derived.Test.YtleaogcnndhdgaaRows
import Derived.Test.YtleaogcnndhdgaaAv20
namespace Go.Proofs.Ytleaogcnndhdgaa
open Go Go.Av Go.RowKit
def tf3 : TFact := ⟨.int .i64, 1, 8, (Value.int .i64 0), [1], [[(.v (.int .i64 0))]]⟩
theorem tf3_ok : tf3.ok Try.prog 3 := ⟨⟨_, by rfl, rfl⟩, ⟨_, by rfl, rfl, rfl, rfl⟩, by rfl, by rfl, by decide, by rfl, by decide, fun h => by first | rfl | cases h⟩
def tf4 : TFact := ⟨.bool, 1, 1, (Value.bool false), [1], [[(.v (.bool false))]]⟩
theorem tf4_ok : tf4.ok Try.prog 4 := ⟨⟨_, by rfl, rfl⟩, ⟨_, by rfl, rfl, rfl, rfl⟩, by rfl, by rfl, by decide, by rfl, by decide, fun h => by first | rfl | cases h⟩
def tf5 : TFact := ⟨.int .u8, 1, 1, (Value.int .u8 0), [1], [[(.v (.int .u8 0))]]⟩
theorem tf5_ok : tf5.ok Try.prog 5 := ⟨⟨_, by rfl, rfl⟩, ⟨_, by rfl, rfl, rfl, rfl⟩, by rfl, by rfl, by decide, by rfl, by decide, fun h => by first | rfl | cases h⟩
def tf9 : TFact := ⟨.string, 1, 16, (Value.string .empty), [1], [[(.v (.string .empty))]]⟩
theorem tf9_ok : tf9.ok Try.prog 9 := ⟨⟨_, by rfl, rfl⟩, ⟨_, by rfl, rfl, rfl, rfl⟩, by rfl, by rfl, by decide, by rfl, by decide, fun h => by first | rfl | cases h⟩
def tf22 : TFact := ⟨.slice 36, 1, 24, (Value.slice none 0 0), [1], [[(.ro [] true)]]⟩
theorem tf22_ok : tf22.ok Try.prog 22 := ⟨⟨_, by rfl, rfl⟩, ⟨_, by rfl, rfl, rfl, rfl⟩, by rfl, by rfl, by decide, by rfl, by decide, fun h => by first | rfl | cases h⟩
def tf29 : TFact := ⟨.struct [(0, 22), (1, 3), (2, 3)], 3, 40, (.agg #[(Value.slice none 0 0), (Value.int .i64 0), (Value.int .i64 0)]), [1, 1, 1], [[(.ro [] true)], [(.v (.int .i64 0))], [(.v (.int .i64 0))]]⟩
theorem tf29_ok : tf29.ok Try.prog 29 := ⟨⟨_, by rfl, ⟨_, rfl, by kernel_rfl⟩⟩, ⟨_, by rfl, rfl, rfl, rfl⟩, by rfl, by rfl, by decide, by rfl, by decide, fun h => by first | rfl | cases h⟩
def tf32 : TFact := ⟨.struct [(0, 22), (1, 3), (2, 3)], 3, 40, (.agg #[(Value.slice none 0 0), (Value.int .i64 0), (Value.int .i64 0)]), [1, 1, 1], [[(.ro [] true)], [(.v (.int .i64 0))], [(.v (.int .i64 0))]]⟩
theorem tf32_ok : tf32.ok Try.prog 32 := ⟨⟨_, by rfl, ⟨_, rfl, by kernel_rfl⟩⟩, ⟨_, by rfl, rfl, rfl, rfl⟩, by rfl, by rfl, by decide, by rfl, by decide, fun h => by first | rfl | cases h⟩
def tf36 : TFact := ⟨.array 4 3, 4, 32, (.agg #[(Value.int .i64 0), (Value.int .i64 0), (Value.int .i64 0), (Value.int .i64 0)]), [4], [[(.v (.int .i64 0)), (.v (.int .i64 0)), (.v (.int .i64 0)), (.v (.int .i64 0))]]⟩
theorem tf36_ok : tf36.ok Try.prog 36 := ⟨⟨_, by rfl, rfl⟩, ⟨_, by rfl, rfl, rfl, rfl⟩, by rfl, by rfl, by decide, by rfl, by decide, fun h => by first | rfl | cases h⟩
def tf41 : TFact := ⟨.struct [(0, 9), (1, 9)], 2, 32, (.agg #[(Value.string .empty), (Value.string .empty)]), [1, 1], [[(.v (.string .empty))], [(.v (.string .empty))]]⟩
theorem tf41_ok : tf41.ok Try.prog 41 := ⟨⟨_, by rfl, ⟨_, rfl, by kernel_rfl⟩⟩, ⟨_, by rfl, rfl, rfl, rfl⟩, by rfl, by rfl, by decide, by rfl, by decide, fun h => by first | rfl | cases h⟩
def tf44 : TFact := ⟨.struct [(0, 9), (1, 9)], 2, 32, (.agg #[(Value.string .empty), (Value.string .empty)]), [1, 1], [[(.v (.string .empty))], [(.v (.string .empty))]]⟩
theorem tf44_ok : tf44.ok Try.prog 44 := ⟨⟨_, by rfl, ⟨_, rfl, by kernel_rfl⟩⟩, ⟨_, by rfl, rfl, rfl, rfl⟩, by rfl, by rfl, by decide, by rfl, by decide, fun h => by first | rfl | cases h⟩
def tf60 : TFact := ⟨.other, 1, 8, Value.nilFunc, [1], [[(.v .nilFunc)]]⟩
theorem tf60_ok : tf60.ok Try.prog 60 := ⟨⟨_, rfl, rfl⟩, ⟨_, by rfl, rfl, rfl, rfl⟩, by rfl, by rfl, by decide, by rfl, by decide, fun h => by first | rfl | cases h⟩
def tf61 : TFact := ⟨.other, 1, 8, Value.nilFunc, [1], [[(.v .nilFunc)]]⟩
theorem tf61_ok : tf61.ok Try.prog 61 := ⟨⟨_, rfl, rfl⟩, ⟨_, by rfl, rfl, rfl, rfl⟩, by rfl, by rfl, by decide, by rfl, by decide, fun h => by first | rfl | cases h⟩
def tf66 : TFact := ⟨.slice 79, 1, 24, (Value.slice none 0 0), [1], [[(.ro [] true)]]⟩
theorem tf66_ok : tf66.ok Try.prog 66 := ⟨⟨_, by rfl, rfl⟩, ⟨_, by rfl, rfl, rfl, rfl⟩, by rfl, by rfl, by decide, by rfl, by decide, fun h => by first | rfl | cases h⟩
def tf69 : TFact := ⟨.slice 3, 1, 24, (Value.slice none 0 0), [1], [[(.ro [] true)]]⟩
theorem tf69_ok : tf69.ok Try.prog 69 := ⟨⟨_, by rfl, rfl⟩, ⟨_, by rfl, rfl, rfl, rfl⟩, by rfl, by rfl, by decide, by rfl, by decide, fun h => by first | rfl | cases h⟩
def tf71 : TFact := ⟨.other, 1, 8, Value.nilFunc, [1], [[(.v .nilFunc)]]⟩
theorem tf71_ok : tf71.ok Try.prog 71 := ⟨⟨_, rfl, rfl⟩, ⟨_, by rfl, rfl, rfl, rfl⟩, by rfl, by rfl, by decide, by rfl, by decide, fun h => by first | rfl | cases h⟩
def tf79 : TFact := ⟨.array 3 3, 3, 24, (.agg #[(Value.int .i64 0), (Value.int .i64 0), (Value.int .i64 0)]), [3], [[(.v (.int .i64 0)), (.v (.int .i64 0)), (.v (.int .i64 0))]]⟩
theorem tf79_ok : tf79.ok Try.prog 79 := ⟨⟨_, by rfl, rfl⟩, ⟨_, by rfl, rfl, rfl, rfl⟩, by rfl, by rfl, by decide, by rfl, by decide, fun h => by first | rfl | cases h⟩
def sgTF : TypeId → Option TFact
  | 3 => some tf3
  | 4 => some tf4
  | 5 => some tf5
  | 9 => some tf9
  | 22 => some tf22
  | 29 => some tf29
  | 32 => some tf32
  | 36 => some tf36
  | 41 => some tf41
  | 44 => some tf44
  | 60 => some tf60
  | 61 => some tf61
  | 66 => some tf66
  | 69 => some tf69
  | 71 => some tf71
  | 79 => some tf79
  | _ => none
theorem sgTF_ok : ∀ t f, sgTF t = some f → f.ok Try.prog t := by
  intro t f h
  unfold sgTF at h
  split at h
  · injection h with h; subst h; exact tf3_ok
  · injection h with h; subst h; exact tf4_ok
  · injection h with h; subst h; exact tf5_ok
  · injection h with h; subst h; exact tf9_ok
  · injection h with h; subst h; exact tf22_ok
  · injection h with h; subst h; exact tf29_ok
  · injection h with h; subst h; exact tf32_ok
  · injection h with h; subst h; exact tf36_ok
  · injection h with h; subst h; exact tf41_ok
  · injection h with h; subst h; exact tf44_ok
  · injection h with h; subst h; exact tf60_ok
  · injection h with h; subst h; exact tf61_ok
  · injection h with h; subst h; exact tf66_ok
  · injection h with h; subst h; exact tf69_ok
  · injection h with h; subst h; exact tf71_ok
  · injection h with h; subst h; exact tf79_ok
  · cases h
def sgEQ : TypeId → Option (List SK)
  | 36 => some (List.replicate 4 (.int .i64))
  | _ => none
theorem sgEQ_ok : ∀ t sh, sgEQ t = some sh → ∀ (op : BinOp) (x y : Operand) (vs us : List Value) (w : World), fitsAll sh vs = true → fitsAll sh us = true →
    (eqGuard op t x y (.agg vs.toArray) (.agg us.toArray)).run Try.prog w = .ok () w ∧ (Op.equalIn 10000 t (.agg vs.toArray) (.agg us.toArray)).run Try.prog w = .ok (veqL vs us) w := by
  intro t sh h
  unfold sgEQ at h
  split at h
  · injection h with h; subst h; exact eq_arr (by rfl) (by rfl) (by rfl) (by rfl) (by rfl) (by kernel_rfl)
  · cases h
def sg : Sg Try.prog := ⟨sgTF, sgTF_ok, sgEQ, sgEQ_ok, by kernel_rfl⟩
end Go.Proofs.Ytleaogcnndhdgaa

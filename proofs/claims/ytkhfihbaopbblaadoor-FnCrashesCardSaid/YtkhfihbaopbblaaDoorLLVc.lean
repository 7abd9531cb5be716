/- Plain laws: LVc. -/
import Derived.Test.YtkhfihbaopbblaaDoorLLLn
import Derived.Test.YtkhfihbaopbblaaDoorPL
set_option linter.unusedVariables false
set_option linter.unusedSimpArgs false
namespace Go.Pl
open Go Go.Tv Go.RowKit
set_option linter.unusedVariables false
set_option linter.unusedSimpArgs false
theorem ok_bytes' {a : List Int} (h : (Ty.sl (.int .u8)).ok a) : ∀ x, x ∈ a → 0 ≤ x ∧ x ≤ 255 := fun x hx => bounds_u8 (h.2 x hx)
def ByB (a : List Int) : Prop := ∀ x, x ∈ a → 0 ≤ x ∧ x ≤ 255
theorem vCut_J1_ok {n : Nat} {a : List Int} (h : ByB a) (hl : a.length ≤ 65536) {k : Nat} (hk : k ≤ a.length) (hk2 : k ≤ 255) : ∃ b, v_vCut_J1 n (a, (k : Int)) = some b ∧ ByB b ∧ b.length ≤ 65537 := by
  unfold v_vCut_J1
  simp only [toNat_cast]
  have hsl : (sub a k a.length).length = a.length - k := by simp [sub]
  rw [ckb_pos (slb_ok (by omega) (by omega) (by omega)), ckb_pos (apok_ok (by rw [hsl]; omega) (by rw [hsl]; omega)), lt_eq, ckb_pos (apok_ok (by rw [hsl]; omega) (by rw [hsl]; omega))]
  refine ⟨_, rfl, fun x hx => ?_, by rw [List.length_append, hsl, List.length_singleton]; omega⟩
  rcases List.mem_append.1 hx with hx | hx
  · exact h x (List.mem_of_mem_drop (List.mem_of_mem_take hx))
  · rw [List.mem_singleton] at hx
    rw [hx]
    simp only [IntKind.wrap, IntKind.bits, IntKind.signed]
    simp
    omega
theorem vCut_ok {n : Nat} {a : List Int} (h : ByB a) (hl : a.length ≤ 65536) {k : Nat} (hk2 : k ≤ 255) : ∃ b, v_vCut n a (k : Int) = some b ∧ ByB b ∧ b.length ≤ 65537 := by
  unfold v_vCut
  rw [br_dec]
  split
  · exact vCut_J1_ok h hl (Nat.le_refl _) (by omega)
  · exact vCut_J1_ok h hl (by omega) hk2
end Go.Pl

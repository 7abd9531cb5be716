/- Plain laws: L7. -/
import Derived.Test.YtkhfihbaopbblaaDoorLL2b
set_option linter.unusedVariables false
set_option linter.unusedSimpArgs false
namespace Go.Pl
open Go Go.Tv Go.RowKit
theorem slices_Index_int_eq {n : Nat} (hn : BIG ≤ n) {l : List Int} (hl : l.length ≤ 9223372036854775807) (v : Int) : slices_Index_Sint_int_ n l v = some (placeI (l.findIdx? fun x => decide (v = x))) := by
  unfold slices_Index_Sint_int_
  have := fx_find (B := slices_Index_Sint_int__L1 n) l (fun i => (l, v, (l.length : Int), (i : Int))) (fun x => decide (v = x)) (fun i => some (i : Int)) (some (-1)) (fun self i hi => ?_) (fun self => ?_) n (big_gt hn (by omega))
  · have e : ((0 : Nat) : Int) = 0 := rfl
    simp only [e] at this
    rw [this]; unfold placeI; cases l.findIdx? _ <;> rfl
  · have e1 : decide ((i : Int) < (l.length : Int)) = true := decide_eq_true (by omega)
    simp only [slices_Index_Sint_int__L1, e1, br_true, inb_ok hi, ckb_true, toNat_cast, gl_eq hi, lt_eq]
    rw [w64_succ (by omega)]
    by_cases hc : v = l[i] <;> simp [hc]
  · have e1 : decide ((l.length : Int) < (l.length : Int)) = false := decide_eq_false (by omega)
    simp only [slices_Index_Sint_int__L1, e1, br_false]
theorem placeI_nonneg (o : Option Nat) : decide (0 ≤ placeI o) = o.isSome := by
  cases o with
  | none => rfl
  | some i => simp [placeI]
theorem any_eq_contains {l : List Int} {v : Int} : (l.any fun x => decide (v = x)) = l.contains v := by
  rw [Bool.eq_iff_iff]; simp
theorem slices_Contains_int_eq {n : Nat} (hn : BIG ≤ n) {l : List Int} (hl : l.length ≤ 9223372036854775807) (v : Int) : slices_Contains_Sint_int_ n l v = some (l.contains v) := by
  unfold slices_Contains_Sint_int_
  rw [slices_Index_int_eq hn hl]
  simp only [ob_some, placeI_nonneg, List.findIdx?_isSome, any_eq_contains]
end Go.Pl

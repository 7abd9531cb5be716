/- Plain laws: LTh. -/
import Derived.Test.YtifcbamdncpahaaDoorLLR
import Derived.Test.YtifcbamdncpahaaDoorLLSo1
import Derived.Test.YtifcbamdncpahaaDoorLLD2
set_option linter.unusedVariables false
set_option linter.unusedSimpArgs false
namespace Go.Pl
open Go Go.Tv Go.RowKit
set_option linter.unusedVariables false
theorem t3_in012 {x : Int} (h : 0 ≤ x ∧ x ≤ 2) : x = 0 ∨ x = 1 ∨ x = 2 := by omega
theorem t3_back' {x y : Int} (hx : 0 ≤ x ∧ x ≤ 2) (hy : 0 ≤ y ∧ y ≤ 2) : t3 x (t3 x y) = y := by
  rcases t3_in012 hx with rfl | rfl | rfl <;> rcases t3_in012 hy with rfl | rfl | rfl <;> decide
theorem th_comm (a b : Card) : third a b = third b a := by
  have e : ∀ x y : Int, t3 x y = t3 y x := fun x y => by unfold t3; congr 1; omega
  unfold third; rw [e a.x0, e a.x1, e a.x2, e a.x3]
theorem th_back {a b : Card} (ha : isC a = true) (hb : isC b = true) : third a (third a b) = b := by
  rw [isC_iff] at ha hb
  unfold third
  simp only []
  rw [t3_back' ha.1 hb.1, t3_back' ha.2.1 hb.2.1, t3_back' ha.2.2.1 hb.2.2.1, t3_back' ha.2.2.2 hb.2.2.2]
structure HandL (h : List Card) : Prop where
  c : AllC h
  nd : h.Nodup
  len : h.length ≤ 100
theorem HandL.of {h : List Card} (hh : hand h = true) : HandL h := ⟨hand_all hh, hand_nodup hh, by have := hand_len hh; omega⟩
end Go.Pl

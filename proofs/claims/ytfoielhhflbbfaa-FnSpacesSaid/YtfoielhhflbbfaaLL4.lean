/- Plain laws: L4. -/
import Derived.Test.YtfoielhhflbbfaaLL2
set_option linter.unusedVariables false
set_option linter.unusedSimpArgs false
namespace Go.Pl
open Go Go.Tv Go.RowKit
def t3 (x y : Int) : Int := Int.tmod (6 - x - y) 3
def third (a b : Card) : Card := ⟨t3 a.x0 b.x0, t3 a.x1 b.x1, t3 a.x2 b.x2, t3 a.x3 b.x3⟩
theorem t3_in {x y : Int} (hx : 0 ≤ x ∧ x ≤ 2) (hy : 0 ≤ y ∧ y ≤ 2) : 0 ≤ t3 x y ∧ t3 x y ≤ 2 := by
  unfold t3
  rw [Int.tmod_eq_emod_of_nonneg (by omega)]; omega
theorem third_isC {a b : Card} (ha : isC a = true) (hb : isC b = true) : isC (third a b) = true := by
  rw [isC_iff] at ha hb ⊢
  exact ⟨t3_in ha.1 hb.1, t3_in ha.2.1 hb.2.1, t3_in ha.2.2.1 hb.2.2.1, t3_in ha.2.2.2 hb.2.2.2⟩
theorem s_l2Third_eq {n : Nat} (hn : BIG ≤ n) {a b : Card} (ha : isC a = true) (hb : isC b = true) : s_l2Third n a b = some (third a b) := by
  obtain ⟨m, rfl⟩ : ∃ m, n = m + 5 := ⟨n - 5, by unfold BIG at hn; omega⟩
  rw [isC_iff] at ha hb
  unfold s_l2Third
  simp only [lt_eq, fx_succ, s_l2Third_L1]
  simp [inb, V4.get, V4.set]
  rw [w64_id (x := 6 - a.x0) (by omega), w64_id (x := 6 - a.x1) (by omega), w64_id (x := 6 - a.x2) (by omega), w64_id (x := 6 - a.x3) (by omega),
    w64_id (x := 6 - a.x0 - b.x0) (by omega), w64_id (x := 6 - a.x1 - b.x1) (by omega), w64_id (x := 6 - a.x2 - b.x2) (by omega), w64_id (x := 6 - a.x3 - b.x3) (by omega)]
  rfl
theorem i_third_eq {n : Nat} (hn : BIG ≤ n) {a b : Card} (ha : isC a = true) (hb : isC b = true) : i_third n a b = some (third a b) := by
  have h := s_l2Third_eq hn ha hb
  rw [← h]; rfl
def lineB (a b c : Card) : Bool := !decide (a = b) && decide (third a b = c)
end Go.Pl

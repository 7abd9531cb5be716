/- A part of the proof that a law of the seat holds: ZLaw4. -/
import Derived.Test.YtleaogcnndhdgaaLawB
namespace Go.Proofs.Ytleaogcnndhdgaa
open Go Go.Av Go.RowKit

theorem f41_18 {n : Nat} {l : List (V4 Int)} {a b : Int} (hl : l.length < n) (h4 : 4 < n) (hb : l.length ≤ 1048576) : ∃ v, F16 n l a b = some v ∧ F18 n l a b = some v := by
  refine ⟨hand l && decide (0 ≤ a ∧ a ≤ 1000) && decide (0 ≤ b ∧ b ≤ 1000), ?_, ?_⟩
  · simp only [F16, F41, f44 hl h4 hb, f67, ob_some]
    cases hand l <;> cases decide (0 ≤ a ∧ a ≤ 1000) <;> cases decide (0 ≤ b ∧ b ≤ 1000) <;> rfl
  · simp only [F18, f42 hl h4 hb, f43, ob_some]
    cases hand l <;> cases decide (0 ≤ a ∧ a ≤ 1000) <;> cases decide (0 ≤ b ∧ b ≤ 1000) <;> rfl

theorem f4 {n : Nat} {l : List (V4 Int)} {a b : Int} (hl : l.length ≤ 9223372036854775807) (hn : 1048580 ≤ n) : F4 n l a b = some true := by
  unfold F4 F15
  rw [f10 n (by omega)]
  by_cases h1 : (1048576 : Int) - (l.length : Int) < 0
  · rw [if_pos h1]; rfl
  rw [if_neg h1]
  have h4 : 4 < n := by omega
  have e1 := f12 (n := n) (l := l) (by omega) h4 (by omega)
  have e3 := f14 (n := n) (l := l) (by omega) h4 (by omega)
  obtain ⟨v, e5, e6⟩ := f41_18 (n := n) (l := l) (a := a) (b := b) (by omega) h4 (by omega)
  simp only [ob_some, decide_eq_false h1, br_false, F17, e1, e5, e6, F19, e3, decide_true, Bool.not_true]
  have : (v == v) = true := by simp
  simp only [this, Bool.not_true, br_false, ob_some]
end Go.Proofs.Ytleaogcnndhdgaa

/- Plain laws: LR. -/
import Derived.Test.YtfoielhhflbbfaaLLQ
import Derived.Test.YtfoielhhflbbfaaLL4
set_option linter.unusedVariables false
set_option linter.unusedSimpArgs false
namespace Go.Pl
open Go Go.Tv Go.RowKit
set_option linter.unusedVariables false
theorem has_any (l : List Card) (c : Card) : (l.any fun x => decide (x = c)) = l.contains c := by
  induction l with
  | nil => rfl
  | cons a t ih =>
    rw [List.any_cons, List.contains_cons, ih]
    congr 1
    by_cases h : a = c
    · rw [h]; simp
    · rw [decide_eq_false h]; exact (beq_eq_false_iff_ne.2 (Ne.symm h)).symm
theorem s_l2Has_eq {n : Nat} (hn : BIG ≤ n) {h : List Card} (hl : h.length ≤ 9223372036854775807) (c : Card) : s_l2Has n h c = some (h.contains c) := by
  unfold s_l2Has
  rw [s_l2Place_eq hn hl, ob_some]
  have e : decide (0 ≤ place h c) = (h.findIdx? fun x => decide (x = c)).isSome := by
    unfold place placeI
    cases hq : h.findIdx? fun x => decide (x = c) with
    | none => rfl
    | some i => exact decide_eq_true (by simp only []; omega)
  rw [e, findIdx?_any, has_any]
end Go.Pl

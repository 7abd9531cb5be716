/- Plain laws: LSo1. -/
import Derived.Test.YtifcbamdncpahaaDoorLL2b
set_option linter.unusedVariables false
set_option linter.unusedSimpArgs false
namespace Go.Pl
open Go Go.Tv Go.RowKit
set_option linter.unusedVariables false
def AllC (d : List Card) : Prop := ∀ c, c ∈ d → isC c = true
def nm (d : List Card) (i : Nat) : Int := num (gl (⟨0, 0, 0, 0⟩ : Card) d i)
def swc (d : List Card) (i j : Nat) : List Card := (d.set i (gl (⟨0, 0, 0, 0⟩ : Card) d j)).set j (gl (⟨0, 0, 0, 0⟩ : Card) d i)
theorem swp_len (d : List Card) (i j : Nat) : (swc d i j).length = d.length := by simp [swc]
theorem gl_set {α : Type} (z : α) (d : List α) (i : Nat) (x : α) (h : i < d.length) (k : Nat) : gl z (d.set i x) k = if k = i then x else gl z d k := by
  unfold gl
  simp only [List.getD_eq_getElem?_getD, List.getElem?_set]
  by_cases hk : i = k
  · subst hk; simp [h]
  · have hk' : ¬ k = i := fun h => hk h.symm
    simp [hk, hk']
theorem gl_swp {d : List Card} {i j : Nat} (hi : i < d.length) (hj : j < d.length) (k : Nat) :
    gl (⟨0, 0, 0, 0⟩ : Card) (swc d i j) k = if k = j then gl ⟨0, 0, 0, 0⟩ d i else if k = i then gl ⟨0, 0, 0, 0⟩ d j else gl ⟨0, 0, 0, 0⟩ d k := by
  unfold swc
  rw [gl_set _ _ _ _ (by simpa using hj), gl_set _ _ _ _ hi]
theorem nm_swp {d : List Card} {i j : Nat} (hi : i < d.length) (hj : j < d.length) (k : Nat) : nm (swc d i j) k = if k = j then nm d i else if k = i then nm d j else nm d k := by
  unfold nm
  rw [gl_swp hi hj]
  split
  · rfl
  · split <;> rfl
theorem gl_C {d : List Card} (hd : AllC d) {i : Nat} (h : i < d.length) : isC (gl (⟨0, 0, 0, 0⟩ : Card) d i) = true := by
  rw [gl_eq h]; exact hd _ (List.getElem_mem h)
inductive Sw (a b : Nat) (d : List Card) : List Card → Prop
  | refl : Sw a b d d
  | step {d' : List Card} (h : Sw a b d d') (i j : Nat) (ha : a ≤ i) (hb : i < b) (ha' : a ≤ j) (hb' : j < b) (hl : b ≤ d.length) : Sw a b d (swc d' i j)
theorem Sw.len {a b : Nat} {d d' : List Card} (h : Sw a b d d') : d'.length = d.length := by
  induction h with
  | refl => rfl
  | step _ i j _ _ _ _ _ ih => rw [swp_len, ih]
theorem Sw.out {a b : Nat} {d d' : List Card} (h : Sw a b d d') {k : Nat} (hk : k < a ∨ b ≤ k) : nm d' k = nm d k := by
  induction h with
  | refl => rfl
  | step h i j _ _ _ _ _ ih => rw [nm_swp (by rw [h.len]; omega) (by rw [h.len]; omega), if_neg (by omega), if_neg (by omega), ih]
theorem Sw.all {a b : Nat} {d d' : List Card} (h : Sw a b d d') {P : Int → Prop} (hP : ∀ k, a ≤ k → k < b → P (nm d k)) : ∀ k, a ≤ k → k < b → P (nm d' k) := by
  induction h with
  | refl => exact hP
  | step h i j _ _ _ _ _ ih =>
    intro k h1 h2
    rw [nm_swp (by rw [h.len]; omega) (by rw [h.len]; omega)]
    split
    · exact ih i (by omega) (by omega)
    · split
      · exact ih j (by omega) (by omega)
      · exact ih k h1 h2
theorem Sw.trans {a b : Nat} {d d' d'' : List Card} (h : Sw a b d d') (k : Sw a b d' d'') : Sw a b d d'' := by
  induction k with
  | refl => exact h
  | step k i j ha hb ha' hb' hl ih => exact .step ih i j ha hb ha' hb' (by rw [← h.len]; exact hl)
theorem Sw.mono {a b a' b' : Nat} {d d' : List Card} (h : Sw a b d d') (ha : a' ≤ a) (hb : b ≤ b') (hl : b' ≤ d.length) : Sw a' b' d d' := by
  induction h with
  | refl => exact .refl
  | step k i j h1 h2 h3 h4 _ ih => exact .step ih i j (by omega) (by omega) (by omega) (by omega) hl
end Go.Pl

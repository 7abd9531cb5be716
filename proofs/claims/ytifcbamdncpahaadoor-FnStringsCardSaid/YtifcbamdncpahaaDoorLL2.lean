/- Plain laws: L2. -/
import Derived.Test.YtifcbamdncpahaaDoorPL
import Derived.Test.YtifcbamdncpahaaDoorLLP0
set_option linter.unusedVariables false
set_option linter.unusedSimpArgs false
namespace Go.Pl
open Go Go.Tv Go.RowKit
abbrev Card := V4 Int
def in3 (x : Int) : Bool := decide (0 ≤ x ∧ x ≤ 2)
def isC (c : Card) : Bool := in3 c.x0 && in3 c.x1 && in3 c.x2 && in3 c.x3
def num (c : Card) : Int := 27 * c.x0 + 9 * c.x1 + 3 * c.x2 + c.x3
theorem in3_iff {x : Int} : in3 x = true ↔ 0 ≤ x ∧ x ≤ 2 := by unfold in3; exact decide_eq_true_iff
theorem isC_iff {c : Card} : isC c = true ↔ (0 ≤ c.x0 ∧ c.x0 ≤ 2) ∧ (0 ≤ c.x1 ∧ c.x1 ≤ 2) ∧ (0 ≤ c.x2 ∧ c.x2 ≤ 2) ∧ 0 ≤ c.x3 ∧ c.x3 ≤ 2 := by
  unfold isC; simp only [Bool.and_eq_true, in3_iff, and_assoc]
theorem s_l1In_eq (n : Nat) (x a b : Int) : s_l1In n x a b = some (decide (a ≤ x ∧ x ≤ b)) := by
  unfold s_l1In
  by_cases h : a ≤ x <;> simp [h]
theorem i_within_eq (n : Nat) (x a b : Int) : i_within n x a b = some (decide (a ≤ x ∧ x ≤ b)) := by
  unfold i_within
  by_cases h : a ≤ x <;> simp [h]
def handP : Option Card → List Card → Bool
  | _, [] => true
  | p, c :: l => isC c && (match p with | none => true | some q => decide (num q < num c)) && handP (some c) l
def hand (h : List Card) : Bool := handP none h && decide (h.length ≤ 27)
theorem handP_cons {p : Option Card} {c : Card} {l : List Card} : handP p (c :: l) = (isC c && (match p with | none => true | some q => decide (num q < num c)) && handP (some c) l) := rfl
theorem hand_len {h : List Card} (hh : hand h = true) : h.length ≤ 27 := by
  unfold hand at hh
  rw [Bool.and_eq_true] at hh
  exact of_decide_eq_true hh.2
theorem handP_all : ∀ {p : Option Card} {l : List Card}, handP p l = true → ∀ c ∈ l, isC c = true
  | p, c :: l, h, d, hd => by
    rw [handP_cons, Bool.and_eq_true, Bool.and_eq_true] at h
    rcases List.mem_cons.1 hd with rfl | hd
    · exact h.1.1
    · exact handP_all h.2 d hd
theorem hand_all {h : List Card} (hh : hand h = true) : ∀ c ∈ h, isC c = true := by
  unfold hand at hh
  rw [Bool.and_eq_true] at hh
  exact handP_all hh.1
end Go.Pl

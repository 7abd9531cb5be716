/- Plain laws: LSo3, LSo4. -/
import Derived.Test.YtfoielhhflbbfaaG3
set_option linter.unusedVariables false
set_option linter.unusedSimpArgs false
namespace Go.Pl
open Go Go.Tv Go.RowKit
set_option linter.unusedVariables false
end Go.Pl
namespace Go.Pl
open Go Go.Tv Go.RowKit
set_option linter.unusedVariables false
structure PI (a b i j : Nat) (d0 d : List Card) : Prop where
  ai : a < i
  ij : i ≤ j + 1
  jb : j < b
  sw : Sw a b d0 d
  lo : ∀ k, a < k → k < i → nm d k < nm d a
  hi : ∀ k, j < k → k < b → nm d a ≤ nm d k
def PQ (a b : Nat) (d0 : List Card) (o : Opt (Int × Bool × List Card)) : Prop := ∃ (m : Nat) (f : Bool) (d : List Card), o = some ((m : Int), f, d) ∧ a ≤ m ∧ m < b ∧ Sw a b d0 d ∧ (∀ k, a ≤ k → k < m → nm d k < nm d m) ∧ ∀ k, m < k → k < b → nm d m ≤ nm d k
section
variable {a b i j : Nat} {d0 d : List Card}
theorem PI.up (I : PI a b i j d0 d) (h : i ≤ j) (hl : nm d i < nm d a) : PI a b (i + 1) j d0 d :=
  ⟨by have := I.ai; omega, by omega, I.jb, I.sw, fun k h1 h2 => by
    by_cases hk : k = i
    · subst hk; exact hl
    · exact I.lo k h1 (by omega), I.hi⟩
theorem PI.fin (I : PI a b i j d0 d) (hb : b ≤ d0.length) (h : j < i) (f : Bool) : PQ a b d0 (some ((j : Int), f, swc d j a)) := by
  have := I.ai; have := I.jb; have := I.sw.len; have := I.ij
  have l1 : j < d.length := by omega
  have l2 : a < d.length := by omega
  refine ⟨j, f, _, rfl, by omega, I.jb, .step I.sw _ _ (by omega) (by omega) (by omega) (by omega) hb, fun k k1 k2 => ?_, fun k k1 k2 => ?_⟩
  · rw [nsi l1 l2]
    by_cases hk : k = a
    · subst hk; rw [nsj l1 l2]; exact I.lo j k2 h
    · rw [nso l1 l2 (by omega) hk]; exact I.lo k (by omega) (by omega)
  · rw [nsi l1 l2, nso l1 l2 (by omega) (by omega)]; exact I.hi k k1 k2
end
structure EI (a b i j : Nat) (d0 d : List Card) : Prop where
  ai : a < i
  ij : i ≤ j + 1
  jb : j < b
  sw : Sw a b d0 d
  mn : ∀ k, a ≤ k → k < b → nm d a ≤ nm d k
  lo : ∀ k, a < k → k < i → nm d k ≤ nm d a
  hi : ∀ k, j < k → k < b → nm d a < nm d k
def EQ (a b : Nat) (d0 : List Card) (o : Opt (Int × List Card)) : Prop := ∃ (m : Nat) (d : List Card), o = some ((m : Int), d) ∧ a < m ∧ m ≤ b ∧ Sw a b d0 d ∧ ∀ k, a ≤ k → k < m → ∀ q, a ≤ q → q < b → nm d k ≤ nm d q
section
variable {a b i j : Nat} {d0 d : List Card}
theorem EI.up (I : EI a b i j d0 d) (h : i ≤ j) (hl : nm d i ≤ nm d a) : EI a b (i + 1) j d0 d :=
  ⟨by have := I.ai; omega, by omega, I.jb, I.sw, I.mn, fun k h1 h2 => by
    by_cases hk : k = i
    · subst hk; exact hl
    · exact I.lo k h1 (by omega), I.hi⟩
theorem EI.fin (I : EI a b i j d0 d) (h : j < i) : EQ a b d0 (some ((i : Int), d)) := by
  have := I.ai; have := I.jb; have := I.ij
  refine ⟨i, d, rfl, I.ai, by omega, I.sw, fun k k1 k2 q q1 q2 => ?_⟩
  have := I.mn q q1 q2
  by_cases hk : k = a
  · subst hk; exact this
  · have := I.lo k (by omega) k2; omega
end
end Go.Pl

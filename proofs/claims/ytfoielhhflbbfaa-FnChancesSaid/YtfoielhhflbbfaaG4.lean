/- Plain laws: LSo4, LSo5. -/
import Derived.Test.YtfoielhhflbbfaaG3
set_option linter.unusedVariables false
set_option linter.unusedSimpArgs false
namespace Go.Pl
open Go Go.Tv Go.RowKit
set_option linter.unusedVariables false
structure PI (a b i j : Nat) (d0 d : List Card) : Prop where
  ai : a < i
  ij : i ≤ j + 1
  jb : j < b
  sw : Sw a b d0 d
  lo : ∀ k, a < k → k < i → nm d k < nm d a
  hi : ∀ k, j < k → k < b → nm d a ≤ nm d k
def PQ (a b : Nat) (d0 : List Card) (o : Opt (Int × Bool × List Card)) : Prop := ∃ (m : Nat) (f : Bool) (d : List Card), o = some ((m : Int), f, d) ∧ a ≤ m ∧ m < b ∧ Sw a b d0 d ∧ (∀ k, a ≤ k → k < m → nm d k < nm d m) ∧ ∀ k, m < k → k < b → nm d m ≤ nm d k
section
variable {a b i j : Nat} {d0 d : List Card}
theorem PI.up (I : PI a b i j d0 d) (h : i ≤ j) (hl : nm d i < nm d a) : PI a b (i + 1) j d0 d :=
  ⟨by have := I.ai; omega, by omega, I.jb, I.sw, fun k h1 h2 => by
    by_cases hk : k = i
    · subst hk; exact hl
    · exact I.lo k h1 (by omega), I.hi⟩
theorem PI.fin (I : PI a b i j d0 d) (hb : b ≤ d0.length) (h : j < i) (f : Bool) : PQ a b d0 (some ((j : Int), f, swc d j a)) := by
  have := I.ai; have := I.jb; have := I.sw.len; have := I.ij
  have l1 : j < d.length := by omega
  have l2 : a < d.length := by omega
  refine ⟨j, f, _, rfl, by omega, I.jb, .step I.sw _ _ (by omega) (by omega) (by omega) (by omega) hb, fun k k1 k2 => ?_, fun k k1 k2 => ?_⟩
  · rw [nsi l1 l2]
    by_cases hk : k = a
    · subst hk; rw [nsj l1 l2]; exact I.lo j k2 h
    · rw [nso l1 l2 (by omega) hk]; exact I.lo k (by omega) (by omega)
  · rw [nsi l1 l2, nso l1 l2 (by omega) (by omega)]; exact I.hi k k1 k2
end
structure EI (a b i j : Nat) (d0 d : List Card) : Prop where
  ai : a < i
  ij : i ≤ j + 1
  jb : j < b
  sw : Sw a b d0 d
  mn : ∀ k, a ≤ k → k < b → nm d a ≤ nm d k
  lo : ∀ k, a < k → k < i → nm d k ≤ nm d a
  hi : ∀ k, j < k → k < b → nm d a < nm d k
def EQ (a b : Nat) (d0 : List Card) (o : Opt (Int × List Card)) : Prop := ∃ (m : Nat) (d : List Card), o = some ((m : Int), d) ∧ a < m ∧ m ≤ b ∧ Sw a b d0 d ∧ ∀ k, a ≤ k → k < m → ∀ q, a ≤ q → q < b → nm d k ≤ nm d q
section
variable {a b i j : Nat} {d0 d : List Card}
theorem EI.up (I : EI a b i j d0 d) (h : i ≤ j) (hl : nm d i ≤ nm d a) : EI a b (i + 1) j d0 d :=
  ⟨by have := I.ai; omega, by omega, I.jb, I.sw, I.mn, fun k h1 h2 => by
    by_cases hk : k = i
    · subst hk; exact hl
    · exact I.lo k h1 (by omega), I.hi⟩
theorem EI.fin (I : EI a b i j d0 d) (h : j < i) : EQ a b d0 (some ((i : Int), d)) := by
  have := I.ai; have := I.jb; have := I.ij
  refine ⟨i, d, rfl, I.ai, by omega, I.sw, fun k k1 k2 q q1 q2 => ?_⟩
  have := I.mn q q1 q2
  by_cases hk : k = a
  · subst hk; exact this
  · have := I.lo k (by omega) k2; omega
end
end Go.Pl
namespace Go.Pl
open Go Go.Tv Go.RowKit
set_option linter.unusedVariables false
def Low (d : List Card) (a b : Nat) : Prop := ∀ p, p < a → ∀ q, a ≤ q → q < b → nm d p ≤ nm d q
theorem Low.sw {a b : Nat} {d d' : List Card} (h : Low d a b) (hs : Sw a b d d') : Low d' a b := fun p hp q q1 q2 => by
  rw [hs.out (.inl hp)]
  exact hs.all (P := fun x => nm d p ≤ x) (h p hp) q q1 q2
def Done (a0 b0 a b : Nat) (d : List Card) : Prop := (∀ p, a0 ≤ p → p < a → ∀ q, p < q → q < b0 → nm d p ≤ nm d q) ∧ ∀ q, b ≤ q → q < b0 → ∀ p, a0 ≤ p → p < q → nm d p ≤ nm d q
theorem Done.sw {a0 b0 a b : Nat} {d d' : List Card} (h : Done a0 b0 a b d) (hs : Sw a b d d') (ha : a0 ≤ a) (hb : b ≤ b0) : Done a0 b0 a b d' := by
  obtain ⟨h1, h2⟩ := h
  refine ⟨fun p p1 p2 q q1 q2 => ?_, fun q q1 q2 p p1 p2 => ?_⟩
  · rw [hs.out (.inl p2)]
    by_cases hq : a ≤ q ∧ q < b
    · exact hs.all (P := fun x => nm d p ≤ x) (fun k k1 k2 => h1 p p1 p2 k (by omega) (by omega)) q hq.1 hq.2
    · rw [hs.out (by omega)]; exact h1 p p1 p2 q q1 q2
  · rw [hs.out (k := q) (.inr q1)]
    by_cases hq : a ≤ p ∧ p < b
    · exact hs.all (P := fun x => x ≤ nm d q) (fun k k1 k2 => h2 q q1 q2 k (by omega) (by omega)) p hq.1 hq.2
    · rw [hs.out (k := p) (by omega)]; exact h2 q q1 q2 p p1 p2
theorem Done.fin {a0 b0 a b : Nat} {d : List Card} (h : Done a0 b0 a b d) (hs : Srt d a b) : Srt d a0 b0 := fun p q p1 p2 p3 => by
  by_cases hp : p < a
  · exact h.1 p p1 hp q p2 p3
  · by_cases hq : b ≤ q
    · exact h.2 q hq p3 p p1 p2
    · exact hs p q (by omega) p2 (by omega)
structure QI (a0 b0 a b : Nat) (d0 d : List Card) : Prop where
  ha : a0 ≤ a
  ab : a ≤ b
  hb : b ≤ b0
  sw : Sw a0 b0 d0 d
  low : Low d a b
  dn : Done a0 b0 a b d
theorem QI.sws {a0 b0 a b : Nat} {d0 d d' : List Card} (I : QI a0 b0 a b d0 d) (hs : Sw a b d d') (hl : b0 ≤ d0.length) : QI a0 b0 a b d0 d' :=
  ⟨I.ha, I.ab, I.hb, I.sw.trans (hs.mono I.ha I.hb (by rw [I.sw.len]; exact hl)), I.low.sw hs, I.dn.sw hs I.ha I.hb⟩
theorem QI.out {a0 b0 a b : Nat} {d0 d : List Card} (I : QI a0 b0 a b d0 d) {o : Opt (List Card)} (h : Post a b d o) (hl : b0 ≤ d0.length) : Post a0 b0 d0 o := by
  obtain ⟨e, rfl, h1, h2⟩ := h
  have I2 := I.sws h1 hl
  exact ⟨e, rfl, I2.sw, I2.dn.fin h2⟩
end Go.Pl

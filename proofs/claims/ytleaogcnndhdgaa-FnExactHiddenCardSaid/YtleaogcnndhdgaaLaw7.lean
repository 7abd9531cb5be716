/- A part of the proof that a law of the seat holds: ZLaw7. -/
import Derived.Test.YtleaogcnndhdgaaLawB
namespace Go.Proofs.Ytleaogcnndhdgaa
open Go Go.Av Go.RowKit

def z4 : V4 Int := ⟨0, 0, 0, 0⟩
def stp (s c : V4 Int) : V4 Int := ⟨Int.tmod (w64 (s.x0 + c.x0)) 3, Int.tmod (w64 (s.x1 + c.x1)) 3, Int.tmod (w64 (s.x2 + c.x2)) 3, Int.tmod (w64 (s.x3 + c.x3)) 3⟩
def acc (l : List (V4 Int)) : Nat → V4 Int
  | 0 => z4
  | i + 1 => stp (acc l i) (gl l i)

theorem in54 {n : Nat} (hn : 4 < n) {l : List (V4 Int)} {s1 : V4 Int × Int} (h : 0 ≤ s1.2 ∧ s1.2 < (l.length : Int)) (f : V4 Int × Int → Option (V4 Int)) (s : V4 Int) : fx (F54_L2 n l s1 f) n (s, 0) = f (stp s (gl l s1.2.toNat), w64 (s1.2 + 1)) := by
  obtain ⟨k, rfl⟩ : ∃ k, n = k + 5 := ⟨n - 5, by omega⟩
  simp [fx_succ, F54_L2, ck, br, V4.get, V4.set, w64_1, w64_2, w64_3, w64_4, h.1, h.2, stp]

theorem in56 {n : Nat} (hn : 4 < n) {l : List (V4 Int)} {s1 : V4 Int × Int} (f : V4 Int × Int → Option (V4 Int)) (s : V4 Int) : fx (F56_L2 n l s1 f) n (s, 0) = f (stp s (gl l s1.2.toNat), w64 (s1.2 + 1)) := by
  obtain ⟨k, rfl⟩ : ∃ k, n = k + 5 := ⟨n - 5, by omega⟩
  simp [fx_succ, F56_L2, ck, br, V4.get, V4.set, w64_1, w64_2, w64_3, w64_4, stp]

theorem f54 {n : Nat} {l : List (V4 Int)} (hl : l.length < n) (h4 : 4 < n) (hb : l.length ≤ 1048576) : F54 n l = some (acc l l.length) := by
  unfold F54
  have := fx_for (f := F54_L1 n l) (m := l.length) (fun i => (acc l i, (i : Int))) (some (acc l l.length)) (fun i hi g => by
    have h1 : ((i : Int) < (l.length : Int)) := by omega
    simp only [F54_L1, lt_eq, decide_eq_true h1, br_true]
    rw [in54 h4 (by simp only; omega)]
    simp only [Int.toNat_natCast, w64_nat (show i < 4294967296 by omega), acc]) (fun g => by simp only [F54_L1, lt_eq, Int.lt_irrefl, decide_false, br_false]) l.length 0 n (by omega) hl
  exact this

theorem f56 {n : Nat} {l : List (V4 Int)} (hl : l.length < n) (h4 : 4 < n) (hb : l.length ≤ 1048576) : F56 n l = some (acc l l.length) := by
  unfold F56
  have := fx_for (f := F56_L1 n l) (m := l.length) (fun i => (acc l i, (i : Int))) (some (acc l l.length)) (fun i hi g => by
    have h1 : ((i : Int) < (l.length : Int)) := by omega
    simp only [F56_L1, lt_eq, decide_eq_true h1, br_true]
    rw [ck_pos (by omega), in56 h4]
    simp only [Int.toNat_natCast, w64_nat (show i < 4294967296 by omega), acc]) (fun g => by simp only [F56_L1, lt_eq, Int.lt_irrefl, decide_false, br_false]) l.length 0 n (by omega) hl
  exact this

def hasC (l : List (V4 Int)) (c : V4 Int) : Bool := !(List.range l.length).all fun i => !decide (gl l i = c)

theorem hasC_f {l : List (V4 Int)} {c : V4 Int} : hasC l c = false ↔ ∀ i, i < l.length → decide (gl l i = c) = false := by
  simp [hasC]

theorem find {n : Nat} {l : List (V4 Int)} {c : V4 Int} (hl : l.length < n) (hb : l.length ≤ 1048576) (f : (Int → Option Int) → Int → Option Int) (hf : ∀ i : Nat, i < l.length → ∀ g, f g (i : Int) = br (decide (gl l i = c)) (some (i : Int)) (g ((i + 1 : Nat) : Int))) (hs : ∀ g, f g (l.length : Int) = some (-1)) :
    ob (fx f n 0) (fun x => some (decide (0 ≤ x))) = some (hasC l c) := by
  rcases first_bad (p := fun i => !decide (gl l i = c)) l.length with h | ⟨k, h1, h2, h3⟩
  · have := fx_for (f := f) (m := l.length) (fun i => ((i : Nat) : Int)) (some (-1)) (fun i hi g => by
      have := h i hi
      simp only [Bool.not_eq_true'] at this
      rw [hf i hi, this, br_false]) hs l.length 0 n (by omega) hl
    rw [show ((0 : Nat) : Int) = 0 from rfl] at this
    rw [this, (hasC_f (l := l) (c := c)).2 fun i hi => by simpa using h i hi]; rfl
  · have := fx_leave (f := f) (fun i => ((i : Nat) : Int)) k (some (k : Int)) (fun i hi g => by
      have := h3 i hi
      simp only [Bool.not_eq_true'] at this
      rw [hf i (by omega), this, br_false]) (fun g => by
      have : decide (gl l k = c) = true := by simpa using h2
      rw [hf k h1, this, br_true]) k 0 n (by omega) (by omega)
    rw [show ((0 : Nat) : Int) = 0 from rfl] at this
    have hh : hasC l c = true := by
      cases hh : hasC l c with
      | true => rfl
      | false =>
        have h4 := hasC_f.1 hh k h1
        simp only [h4] at h2; cases h2
    have h0 : decide ((0 : Int) ≤ (k : Int)) = true := by simp
    rw [this, hh, ob_some, h0]

theorem f55 {n : Nat} {l : List (V4 Int)} {c : V4 Int} (hl : l.length < n) (hb : l.length ≤ 1048576) : F55 n l c = some (hasC l c) := by
  unfold F55 F76
  exact find hl hb _ (fun i hi g => by
    have h1 : ((i : Int) < (l.length : Int)) := by omega
    simp only [F76_L1, lt_eq, decide_eq_true h1, br_true, Int.toNat_natCast, eqV4_iff]
    rw [ck_pos (by omega), w64_nat (by omega)]) (fun g => by simp only [F76_L1, lt_eq, Int.lt_irrefl, decide_false, br_false])

theorem f57 {n : Nat} {l : List (V4 Int)} {c : V4 Int} (hl : l.length < n) (hb : l.length ≤ 1048576) : F57 n l c = some (hasC l c) := by
  unfold F57 F77 F85
  have := find (c := c) hl hb (F85_L1 n l c) (fun i hi g => by
    have h1 : ((i : Int) < (l.length : Int)) := by omega
    have h2 : decide (c = gl l i) = decide (gl l i = c) := by
      by_cases h : c = gl l i
      · rw [decide_eq_true h, decide_eq_true h.symm]
      · rw [decide_eq_false h, decide_eq_false (fun h' => h h'.symm)]
    simp only [F85_L1, lt_eq, decide_eq_true h1, br_true, Int.toNat_natCast, eqV4_iff, h2]
    rw [ck_pos (by omega), w64_nat (by omega)]) (fun g => by simp only [F85_L1, lt_eq, Int.lt_irrefl, decide_false, br_false])
  rw [this]; rfl

theorem f27_28 {n : Nat} {l : List (V4 Int)} {c : V4 Int} (hl : l.length < n) (h4 : 4 < n) (hb : l.length ≤ 1048576) : ∃ v, F27 n l c = some v ∧ F28 n l c = some v := by
  have eL : F28_L1 n l c = F27_L1 n l c := by
    funext x g s
    simp only [F27_L1, F28_L1, f55 hl hb, f57 hl hb]
  have ex : ∀ x, ∃ v, fx (F27_L1 n l c x) n (⟨0, 0, 0, 0⟩, 0) = some v := fun x => by
    have : ∃ y, fx (F27_L1 n l c x) n (⟨0, 0, 0, 0⟩, 0) = ob (F55 n l y) fun x9 => br x9 (some ((⟨0, 0, 0, 0⟩ : V4 Int), false)) (some (y, true)) := by
      obtain ⟨k, rfl⟩ : ∃ k, n = k + 5 := ⟨n - 5, by omega⟩
      refine ⟨⟨Int.tmod (w64 (w64 (c.x0 - x.x0) + 3)) 3, Int.tmod (w64 (w64 (c.x1 - x.x1) + 3)) 3, Int.tmod (w64 (w64 (c.x2 - x.x2) + 3)) 3, Int.tmod (w64 (w64 (c.x3 - x.x3) + 3)) 3⟩, ?_⟩
      simp [fx_succ, F27_L1, ck, br, V4.get, V4.set, w64_1, w64_2, w64_3, w64_4]
    obtain ⟨y, hy⟩ := this
    rw [hy, f55 hl hb, ob_some]
    cases hasC l y
    · exact ⟨_, rfl⟩
    · exact ⟨_, rfl⟩
  obtain ⟨v, hv⟩ := ex (acc l l.length)
  unfold F27 F28
  simp only [f44 hl h4 hb, f42 hl h4 hb, f46 h4, f49 h4, f54 hl h4 hb, f56 hl h4 hb, eL, hv, ob_some]
  cases hand l <;> cases isC c <;> exact ⟨_, rfl, rfl⟩

theorem f7 {n : Nat} {l : List (V4 Int)} {c : V4 Int} (hl : l.length ≤ 9223372036854775807) (hn : 1048580 ≤ n) : F7 n l c = some true := by
  unfold F7
  rw [f10 n (by omega)]
  by_cases h1 : (1048576 : Int) - (l.length : Int) < 0
  · rw [if_pos h1]; rfl
  rw [if_neg h1]
  have h4 : 4 < n := by omega
  have e1 := f12 (n := n) (l := l) (by omega) h4 (by omega)
  have e3 := f14 (n := n) (l := l) (by omega) h4 (by omega)
  obtain ⟨v, e5, e6⟩ := f27_28 (n := n) (l := l) (c := c) (by omega) h4 (by omega)
  obtain ⟨v1, v2⟩ := v
  have : (v2 == v2) = true := by simp
  simp only [ob_some, decide_eq_false h1, br_false, e1, f21 h4, e5, e6, f29 h4, decide_true, this, Bool.not_true, e3]
end Go.Proofs.Ytleaogcnndhdgaa

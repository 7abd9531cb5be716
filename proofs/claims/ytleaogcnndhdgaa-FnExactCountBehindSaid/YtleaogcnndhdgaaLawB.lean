/- A part of the proof that a law of the seat holds: ZLawB. -/
import Derived.Test.YtleaogcnndhdgaaC3
import Derived.Test.YtleaogcnndhdgaaLaw1
namespace Go.Proofs.Ytleaogcnndhdgaa
open Go Go.Av Go.RowKit

theorem f21 {n : Nat} (hn : 4 < n) (c : V4 Int) : F21 n c = some c := by
  obtain ⟨m, rfl⟩ : ∃ m, n = m + 5 := ⟨n - 5, by omega⟩
  kernel_rfl

def isC (c : V4 Int) : Bool := decide (0 ≤ c.x0 ∧ c.x0 ≤ 2) && decide (0 ≤ c.x1 ∧ c.x1 ≤ 2) && decide (0 ≤ c.x2 ∧ c.x2 ≤ 2) && decide (0 ≤ c.x3 ∧ c.x3 ≤ 2)

theorem f67 (n : Nat) (a b c : Int) : F67 n a b c = some (decide (b ≤ a ∧ a ≤ c)) := by
  simp only [F67, br_some, ob_some]
  by_cases h1 : b ≤ a <;> by_cases h2 : a ≤ c <;> simp [h1, h2]

theorem f46 {n : Nat} (hn : 4 < n) (c : V4 Int) : F46 n c = some (isC c) := by
  obtain ⟨m, rfl⟩ : ∃ m, n = m + 5 := ⟨n - 5, by omega⟩
  have w1 : w64 (0 + 1) = 1 := by decide
  have w2 : w64 (1 + 1) = 2 := by decide
  have w3 : w64 (2 + 1) = 3 := by decide
  have w4 : w64 (3 + 1) = 4 := by decide
  unfold F46
  simp only [fx_succ, F46_L1, f67, ob_some, w1, w2, w3, w4]
  obtain ⟨a, b, c, d⟩ := c
  simp only [isC]
  by_cases h0 : 0 ≤ a ∧ a ≤ 2 <;> by_cases h1 : 0 ≤ b ∧ b ≤ 2 <;> by_cases h2 : 0 ≤ c ∧ c ≤ 2 <;> by_cases h3 : 0 ≤ d ∧ d ≤ 2 <;> simp [ck, br, V4.get, h0, h1, h2, h3]

theorem f12 {n : Nat} {l : List (V4 Int)} (hl : l.length < n) (h4 : 4 < n) (hb : l.length ≤ 1048576) : F12 n l = some l := by
  unfold F12
  rw [ck_pos (by omega)]
  have := fx_for (f := F12_L1 n l) (m := l.length) (fun i => (l.take i ++ List.replicate (l.length - i) (⟨0, 0, 0, 0⟩ : V4 Int), (i : Int))) (some l) (fun i hi g => by
    have h1 : ((i : Int) < (l.length : Int)) := by omega
    have h3 : (l.take i ++ List.replicate (l.length - i) (⟨0, 0, 0, 0⟩ : V4 Int)).length = l.length := by simp; omega
    simp only [F12_L1, lt_eq, decide_eq_true h1, br_true]
    rw [ck_pos (show 0 ≤ (i : Int) ∧ (i : Int) < (l.length : Int) by omega), f21 h4, ob_some, h3, ck_pos (show 0 ≤ (i : Int) ∧ (i : Int) < (l.length : Int) by omega), Int.toNat_natCast, fill_step l _ hi, w64_nat (by omega)]) (fun g => by
    simp only [F12_L1, lt_eq, Int.lt_irrefl, decide_false, br_false]; simp) l.length 0 n (by omega) hl
  simpa using this

def dif (c d : V4 Int) : Int := (if c.x0 = d.x0 then 0 else 1) + (if c.x1 = d.x1 then 0 else 1) + (if c.x2 = d.x2 then 0 else 1) + (if c.x3 = d.x3 then 0 else 1)

theorem f38 {n : Nat} (hn : 4 < n) (c d : V4 Int) : F38 n c d = some (dif c d) := by
  obtain ⟨m, rfl⟩ : ∃ m, n = m + 5 := ⟨n - 5, by omega⟩
  unfold F38
  obtain ⟨a0, a1, a2, a3⟩ := c
  obtain ⟨b0, b1, b2, b3⟩ := d
  simp only [dif]
  by_cases h0 : a0 = b0 <;> by_cases h1 : a1 = b1 <;> by_cases h2 : a2 = b2 <;> by_cases h3 : a3 = b3 <;> simp [fx_succ, F38_L1, F38_J2, ck, br, V4.get, w64_1, w64_2, w64_3, w64_4, h0, h1, h2, h3]

theorem f40 {n : Nat} (hn : 4 < n) (c d : V4 Int) : F40 n c d = some (dif c d) := by
  obtain ⟨m, rfl⟩ : ∃ m, n = m + 5 := ⟨n - 5, by omega⟩
  unfold F40
  obtain ⟨a0, a1, a2, a3⟩ := c
  obtain ⟨b0, b1, b2, b3⟩ := d
  simp only [dif]
  by_cases h0 : a0 = b0 <;> by_cases h1 : a1 = b1 <;> by_cases h2 : a2 = b2 <;> by_cases h3 : a3 = b3 <;> simp [fx_succ, F40_L1, F40_J2, ck, br, V4.get, w64_1, w64_2, w64_3, w64_4, h0, h1, h2, h3]

theorem f29 {n : Nat} (hn : 4 < n) (c d : V4 Int) : F29 n c d = some (decide (c = d)) := by
  obtain ⟨m, rfl⟩ : ∃ m, n = m + 5 := ⟨n - 5, by omega⟩
  unfold F29
  obtain ⟨a0, a1, a2, a3⟩ := c
  obtain ⟨b0, b1, b2, b3⟩ := d
  by_cases h0 : a0 = b0 <;> by_cases h1 : a1 = b1 <;> by_cases h2 : a2 = b2 <;> by_cases h3 : a3 = b3 <;> simp [fx_succ, F29_L1, ck, br, V4.get, w64_1, w64_2, w64_3, w64_4, h0, h1, h2, h3]

theorem f14 {n : Nat} {l : List (V4 Int)} (hl : l.length < n) (h4 : 4 < n) (hb : l.length ≤ 1048576) : F14 n l l = some true := by
  unfold F14
  simp only [lt_eq, decide_true, Bool.not_true, br_false]
  exact fx_for (f := F14_L1 n l l) (m := l.length) (fun i => (i : Int)) (some true) (fun i hi g => by
    have h1 : ((i : Int) < (l.length : Int)) := by omega
    simp only [F14_L1, lt_eq, decide_eq_true h1, br_true]
    rw [ck_pos (by omega), ck_pos (by omega), f29 h4]
    simp only [decide_true, ob_some, Bool.not_true, br_false]
    rw [w64_nat (by omega)]) (fun g => by simp only [F14_L1, lt_eq, Int.lt_irrefl, decide_false, br_false]) l.length 0 n (by omega) hl

theorem f43 (n : Nat) (a b c : Int) : F43 n a b c = some (decide (b ≤ a ∧ a ≤ c)) := by
  simp only [F43, br_some, ob_some]
  by_cases h1 : b ≤ a <;> by_cases h2 : a ≤ c <;> simp [h1, h2]

theorem f49 {n : Nat} (hn : 4 < n) (c : V4 Int) : F49 n c = some (isC c) := by
  obtain ⟨m, rfl⟩ : ∃ m, n = m + 5 := ⟨n - 5, by omega⟩
  unfold F49 F71 F82 F87
  obtain ⟨a, b, c, d⟩ := c
  simp only [isC]
  by_cases h0 : 0 ≤ a ∧ a ≤ 2 <;> by_cases h1 : 0 ≤ b ∧ b ≤ 2 <;> by_cases h2 : 0 ≤ c ∧ c ≤ 2 <;> by_cases h3 : 0 ≤ d ∧ d ≤ 2 <;> simp [fx_succ, F87_L1, F83, f43, ck, br, ob, gl, w64_1, w64_2, w64_3, w64_4, h0, h1, h2, h3]

theorem f39 {n : Nat} {l : List (V4 Int)} (hl : l.length < n) (h4 : 4 < n) (hb : l.length ≤ 1048576) : F39 n l = some (l.all isC) := by
  have step : ∀ i, i < l.length → isC (gl l i) = true → ∀ g, F80_L1 n l g ((i : Nat) : Int) = g ((i + 1 : Nat) : Int) := fun i hi hc g => by
    have h1 : ((i : Int) < (l.length : Int)) := by omega
    simp only [F80_L1, lt_eq, decide_eq_true h1, br_true, F66, Int.toNat_natCast, f49 h4, ob_some, hc]
    rw [ck_pos (by omega), w64_nat (by omega)]; rfl
  unfold F39 F65 F80
  rcases first_bad (p := fun i => isC (gl l i)) l.length with h | ⟨k, h1, h2, h3⟩
  · have := fx_for (f := F80_L1 n l) (m := l.length) (fun i => ((i : Nat) : Int)) (some (-1)) (fun i hi => step i hi (h i hi)) (fun g => by simp only [F80_L1, lt_eq, Int.lt_irrefl, decide_false, br_false]) l.length 0 n (by omega) hl
    rw [show ((0 : Nat) : Int) = 0 from rfl] at this
    rw [this, all_get.2 h]; rfl
  · have := fx_leave (f := F80_L1 n l) (fun i => ((i : Nat) : Int)) k (some (k : Int)) (fun i hi => step i (by omega) (h3 i hi)) (fun g => by
      have hk : ((k : Int) < (l.length : Int)) := by omega
      simp only [F80_L1, lt_eq, decide_eq_true hk, br_true, F66, Int.toNat_natCast, f49 h4, ob_some, h2]
      rw [ck_pos (by omega)]; rfl) k 0 n (by omega) (by omega)
    rw [show ((0 : Nat) : Int) = 0 from rfl] at this
    have ha : l.all isC = false := by
      cases ha : l.all isC with
      | false => rfl
      | true => have := all_get.1 ha k h1; rw [h2] at this; cases this
    rw [this, ha]
    have : decide ((0 : Int) ≤ (k : Int)) = true := by simp
    simp only [ob_some, this]; rfl

theorem f37 {n : Nat} {l : List (V4 Int)} (hl : l.length < n) (h4 : 4 < n) (hb : l.length ≤ 1048576) : F37 n l = some (decide (l.length ≤ 27) && l.all isC) := by
  have step : ∀ i, i < l.length → i ≤ 27 → isC (gl l i) = true → ∀ g, F37_L1 n l g ((i : Nat) : Int) = g ((i + 1 : Nat) : Int) := fun i hi h27 hc g => by
    have h1 : ((i : Int) < (l.length : Int)) := by omega
    have h2 : ((i : Int) ≤ 27) := by omega
    simp only [F37_L1, lt_eq, decide_eq_true h1, decide_eq_true h2, br_true, ob_some, Int.toNat_natCast, f46 h4, hc]
    rw [ck_pos (by omega), w64_nat (by omega)]; rfl
  have stop : ∀ m : Nat, m = min l.length 28 → ∀ g, F37_L1 n l g (m : Int) = some (decide (l.length ≤ 27)) := fun m hm g => by
    have h5 : decide ((l.length : Int) ≤ 27) = decide (l.length ≤ 27) := by
      by_cases h : l.length ≤ 27
      · rw [decide_eq_true h, decide_eq_true (by omega)]
      · rw [decide_eq_false h, decide_eq_false (by omega)]
    simp only [F37_L1, lt_eq, h5]
    by_cases h : (m : Int) < (l.length : Int)
    · have h2 : ¬ ((m : Int) ≤ 27) := by omega
      simp only [decide_eq_true h, decide_eq_false h2, br_true, ob_some, br_false]
    · simp only [decide_eq_false h, br_false, ob_some]
  unfold F37
  rcases first_bad (p := fun i => isC (gl l i)) (min l.length 28) with h | ⟨k, h1, h2, h3⟩
  · have := fx_for (f := F37_L1 n l) (m := min l.length 28) (fun i => ((i : Nat) : Int)) (some (decide (l.length ≤ 27))) (fun i hi => step i (by omega) (by omega) (h i hi)) (stop _ rfl) (min l.length 28) 0 n (by omega) (by omega)
    rw [show ((0 : Nat) : Int) = 0 from rfl] at this
    rw [this]
    by_cases h27 : l.length ≤ 27
    · rw [all_get.2 fun i hi => h i (by omega)]; simp
    · simp [h27]
  · have := fx_leave (f := F37_L1 n l) (fun i => ((i : Nat) : Int)) k (some false) (fun i hi => step i (by omega) (by omega) (h3 i hi)) (fun g => by
      have hk : ((k : Int) < (l.length : Int)) := by omega
      have hk2 : ((k : Int) ≤ 27) := by omega
      simp only [F37_L1, lt_eq, decide_eq_true hk, decide_eq_true hk2, br_true, ob_some, Int.toNat_natCast, f46 h4, h2]
      rw [ck_pos (by omega)]; rfl) k 0 n (by omega) (by omega)
    rw [show ((0 : Nat) : Int) = 0 from rfl] at this
    have ha : l.all isC = false := by
      cases ha : l.all isC with
      | false => rfl
      | true => have := all_get.1 ha k (by omega); rw [h2] at this; cases this
    rw [this, ha, Bool.and_false]


def num (c : V4 Int) : Int := 27 * c.x0 + 9 * c.x1 + 3 * c.x2 + c.x3
theorem isC_iff {c : V4 Int} : isC c = true ↔ (0 ≤ c.x0 ∧ c.x0 ≤ 2) ∧ (0 ≤ c.x1 ∧ c.x1 ≤ 2) ∧ (0 ≤ c.x2 ∧ c.x2 ≤ 2) ∧ (0 ≤ c.x3 ∧ c.x3 ≤ 2) := by
  simp only [isC, Bool.and_eq_true, decide_eq_true_eq, and_assoc]

theorem f81 (n : Nat) {c : V4 Int} (h : isC c = true) : F81 n c = some (num c) := by
  obtain ⟨h0, h1, h2, h3⟩ := isC_iff.1 h
  simp only [F81, lt_eq, num]
  rw [w64_id (x := 27 * c.x0) (by omega), w64_id (x := 9 * c.x1) (by omega), w64_id (x := 27 * c.x0 + 9 * c.x1) (by omega), w64_id (x := 3 * c.x2) (by omega), w64_id (x := 27 * c.x0 + 9 * c.x1 + 3 * c.x2) (by omega), w64_id (by omega)]

theorem f69 (n : Nat) {c d : V4 Int} (hc : isC c = true) (hd : isC d = true) : F69 n c d = some (decide (num c < num d)) := by
  simp only [F69, f81 n hc, f81 n hd, ob_some]

theorem f68 {n : Nat} (hn : 4 < n) {c : V4 Int} (h : isC c = true) : F68 n c = some (num c) := by
  obtain ⟨m, rfl⟩ : ∃ m, n = m + 5 := ⟨n - 5, by omega⟩
  obtain ⟨h0, h1, h2, h3⟩ := isC_iff.1 h
  obtain ⟨a, b, c, d⟩ := c
  simp only at h0 h1 h2 h3
  have e0 : w64 0 = 0 := by decide
  have e1 : w64 a = a := w64_id (by omega)
  have e2 : w64 (3 * a) = 3 * a := w64_id (by omega)
  have e3 : w64 (3 * a + b) = 3 * a + b := w64_id (by omega)
  have e4 : w64 (3 * (3 * a + b)) = 3 * (3 * a + b) := w64_id (by omega)
  have e5 : w64 (3 * (3 * a + b) + c) = 3 * (3 * a + b) + c := w64_id (by omega)
  have e6 : w64 (3 * (3 * (3 * a + b) + c)) = 3 * (3 * (3 * a + b) + c) := w64_id (by omega)
  have e7 : w64 (3 * (3 * (3 * a + b) + c) + d) = 3 * (3 * (3 * a + b) + c) + d := w64_id (by omega)
  unfold F68
  simp [fx_succ, F68_L1, ck, br, V4.get, w64_1, w64_2, w64_3, w64_4, e0, e1, e2, e3, e4, e5, e6, e7, num]
  omega

/-- card i is one, and behind card i - 1 -/
def good (l : List (V4 Int)) (i : Nat) : Bool := isC (gl l i) && (decide (i = 0) || decide (num (gl l (i - 1)) < num (gl l i)))
def hand (l : List (V4 Int)) : Bool := decide (l.length ≤ 27) && (List.range l.length).all (good l)

theorem hand_iff {l : List (V4 Int)} : hand l = true ↔ l.length ≤ 27 ∧ ∀ i, i < l.length → good l i = true := by
  simp [hand]

theorem good_isC {l : List (V4 Int)} {i : Nat} (h : good l i = true) : isC (gl l i) = true := by
  simp only [good, Bool.and_eq_true] at h; exact h.1

theorem w64_pred {i : Nat} (h : 0 < i) (h2 : i < 4294967296) : w64 ((i : Int) - 1) = ((i - 1 : Nat) : Int) := by rw [w64_id (by omega)]; omega

theorem cast_le {a b : Nat} : decide ((a : Int) ≤ (b : Int)) = decide (a ≤ b) := by
  by_cases h : a ≤ b
  · rw [decide_eq_true h, decide_eq_true (by omega)]
  · rw [decide_eq_false h, decide_eq_false (by omega)]

theorem f44 {n : Nat} {l : List (V4 Int)} (hl : l.length < n) (h4 : 4 < n) (hb : l.length ≤ 1048576) : F44 n l = some (hand l) := by
  have round : ∀ i, i < l.length → i ≤ 27 → (0 < i → isC (gl l (i - 1)) = true) → ∀ g, F44_L1 n l g ((i : Nat) : Int) = if good l i = true then g ((i + 1 : Nat) : Int) else some false := fun i hi h27 hp g => by
    have h1 : ((i : Int) < (l.length : Int)) := by omega
    have h2 : ((i : Int) ≤ 27) := by omega
    simp only [F44_L1, lt_eq, decide_eq_true h1, decide_eq_true h2, br_true, ob_some, Int.toNat_natCast, f46 h4]
    rw [ck_pos (by omega), w64_nat (by omega)]
    cases hc : isC (gl l i) with
    | false => simp [good, hc]
    | true =>
      by_cases h0 : 0 < i
      · have h3 : ((0 : Int) < (i : Int)) := by omega
        simp only [Bool.not_true, br_false, ob_some, decide_eq_true h3, br_true, w64_pred h0 (by omega), Int.toNat_natCast]
        rw [ck_pos (by omega), ck_pos (by omega), f69 n (hp h0) hc]
        have hi0 : i ≠ 0 := by omega
        simp only [ob_some, good, hc, Bool.true_and, decide_eq_false hi0, Bool.false_or]
        cases decide (num (gl l (i - 1)) < num (gl l i)) <;> simp
      · have hi0 : i = 0 := by omega
        have h3 : ¬ ((0 : Int) < (i : Int)) := by omega
        simp only [Bool.not_true, br_false, ob_some, decide_eq_false h3]
        subst hi0
        simp [good, hc]
  have stop : ∀ m : Nat, m = min l.length 28 → ∀ g, F44_L1 n l g (m : Int) = some (decide (l.length ≤ 27)) := fun m hm g => by
    have h5 : decide ((l.length : Int) ≤ 27) = decide (l.length ≤ 27) := by
      by_cases h : l.length ≤ 27
      · rw [decide_eq_true h, decide_eq_true (by omega)]
      · rw [decide_eq_false h, decide_eq_false (by omega)]
    simp only [F44_L1, lt_eq, h5]
    by_cases h : (m : Int) < (l.length : Int)
    · have h2 : ¬ ((m : Int) ≤ 27) := by omega
      simp only [decide_eq_true h, decide_eq_false h2, br_true, ob_some, br_false]
    · simp only [decide_eq_false h, br_false, ob_some]
  unfold F44
  rcases first_bad (p := good l) (min l.length 28) with h | ⟨k, h1, h2, h3⟩
  · have := fx_for (f := F44_L1 n l) (m := min l.length 28) (fun i => ((i : Nat) : Int)) (some (decide (l.length ≤ 27))) (fun i hi g => by
      rw [round i (by omega) (by omega) (fun h0 => good_isC (h (i - 1) (by omega))) g, if_pos (h i hi)]) (stop _ rfl) (min l.length 28) 0 n (by omega) (by omega)
    rw [show ((0 : Nat) : Int) = 0 from rfl] at this
    rw [this]
    by_cases h27 : l.length ≤ 27
    · rw [(hand_iff (l := l)).2 ⟨h27, fun i hi => h i (by omega)⟩, decide_eq_true h27]
    · simp [hand, h27]
  · have := fx_leave (f := F44_L1 n l) (fun i => ((i : Nat) : Int)) k (some false) (fun i hi g => by
      rw [round i (by omega) (by omega) (fun h0 => good_isC (h3 (i - 1) (by omega))) g, if_pos (h3 i hi)]) (fun g => by
      rw [round k (by omega) (by omega) (fun h0 => good_isC (h3 (k - 1) (by omega))) g, if_neg (by rw [h2]; simp)]) k 0 n (by omega) (by omega)
    rw [show ((0 : Nat) : Int) = 0 from rfl] at this
    have ha : hand l = false := by
      cases ha : hand l with
      | false => rfl
      | true => have := (hand_iff.1 ha).2 k (by omega); rw [h2] at this; cases this
    rw [this, ha]

theorem f42 {n : Nat} {l : List (V4 Int)} (hl : l.length < n) (h4 : 4 < n) (hb : l.length ≤ 1048576) : F42 n l = some (hand l) := by
  have round : ∀ i, i < l.length → (0 < i → isC (gl l (i - 1)) = true) → ∀ g, F42_L1 n l g ((i : Nat) : Int) = if good l i = true then g ((i + 1 : Nat) : Int) else some false := fun i hi hp g => by
    have h1 : ((i : Int) < (l.length : Int)) := by omega
    simp only [F42_L1, lt_eq, decide_eq_true h1, br_true, ob_some, Int.toNat_natCast, f49 h4]
    rw [ck_pos (by omega), w64_nat (by omega)]
    cases hc : isC (gl l i) with
    | false => simp [good, hc]
    | true =>
      by_cases h0 : 0 < i
      · have h3 : ((0 : Int) < (i : Int)) := by omega
        simp only [Bool.not_true, br_false, ob_some, decide_eq_true h3, br_true, w64_pred h0 (by omega), Int.toNat_natCast]
        rw [ck_pos (by omega), f68 h4 (hp h0), f68 h4 hc]
        have hi0 : i ≠ 0 := by omega
        simp only [ob_some, good, hc, Bool.true_and, decide_eq_false hi0, Bool.false_or]
        by_cases hlt : num (gl l (i - 1)) < num (gl l i)
        · have h6 : ¬ (num (gl l i) ≤ num (gl l (i - 1))) := by omega
          simp [hlt, h6]
        · have h6 : num (gl l i) ≤ num (gl l (i - 1)) := by omega
          simp [hlt, h6]
      · have hi0 : i = 0 := by omega
        have h3 : ¬ ((0 : Int) < (i : Int)) := by omega
        simp only [Bool.not_true, br_false, ob_some, decide_eq_false h3]
        subst hi0
        simp [good, hc]
  have h5 : decide ((l.length : Int) ≤ 27) = decide (l.length ≤ 27) := by
    by_cases h : l.length ≤ 27
    · rw [decide_eq_true h, decide_eq_true (by omega)]
    · rw [decide_eq_false h, decide_eq_false (by omega)]
  unfold F42
  rcases first_bad (p := good l) l.length with h | ⟨k, h1, h2, h3⟩
  · have := fx_for (f := F42_L1 n l) (m := l.length) (fun i => ((i : Nat) : Int)) (some (decide (l.length ≤ 27))) (fun i hi g => by
      rw [round i (by omega) (fun h0 => good_isC (h (i - 1) (by omega))) g, if_pos (h i hi)]) (fun g => by simp only [F42_L1, lt_eq, Int.lt_irrefl, decide_false, br_false, h5]) l.length 0 n (by omega) (by omega)
    rw [show ((0 : Nat) : Int) = 0 from rfl] at this
    rw [this]
    by_cases h27 : l.length ≤ 27
    · rw [(hand_iff (l := l)).2 ⟨h27, h⟩, decide_eq_true h27]
    · simp [hand, h27]
  · have := fx_leave (f := F42_L1 n l) (fun i => ((i : Nat) : Int)) k (some false) (fun i hi g => by
      rw [round i (by omega) (fun h0 => good_isC (h3 (i - 1) (by omega))) g, if_pos (h3 i hi)]) (fun g => by
      rw [round k (by omega) (fun h0 => good_isC (h3 (k - 1) (by omega))) g, if_neg (by rw [h2]; simp)]) k 0 n (by omega) (by omega)
    rw [show ((0 : Nat) : Int) = 0 from rfl] at this
    have ha : hand l = false := by
      cases ha : hand l with
      | false => rfl
      | true => have := (hand_iff.1 ha).2 k (by omega); rw [h2] at this; cases this
    rw [this, ha]

theorem f10 (n : Nat) {x : Int} {l : List (V4 Int)} (h : -9223372036854775808 ≤ x - (l.length : Int) ∧ x - (l.length : Int) ≤ 9223372036854775807) : F10 n l x = some (if x - (l.length : Int) < 0 then -1 else x - (l.length : Int)) := by
  simp only [F10, lt_eq, w64_id h]
  by_cases h1 : x - (l.length : Int) < 0
  · rw [decide_eq_true h1, br_true, if_pos h1]
  · rw [decide_eq_false h1, br_false, if_neg h1]
end Go.Proofs.Ytleaogcnndhdgaa

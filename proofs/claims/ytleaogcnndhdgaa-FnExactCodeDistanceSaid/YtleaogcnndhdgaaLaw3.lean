/- A part of the proof that a law of the seat holds: ZLaw3. -/
import Derived.Test.YtleaogcnndhdgaaC
import Derived.Test.YtleaogcnndhdgaaLaw1
namespace Go.Proofs.Ytleaogcnndhdgaa
open Go Go.Av Go.RowKit

theorem f21 {n : Nat} (hn : 4 < n) (c : V4 Int) : F21 n c = some c := by
  obtain ⟨m, rfl⟩ : ∃ m, n = m + 5 := ⟨n - 5, by omega⟩
  kernel_rfl

def isC (c : V4 Int) : Bool := decide (0 ≤ c.x0 ∧ c.x0 ≤ 2) && decide (0 ≤ c.x1 ∧ c.x1 ≤ 2) && decide (0 ≤ c.x2 ∧ c.x2 ≤ 2) && decide (0 ≤ c.x3 ∧ c.x3 ≤ 2)

theorem f67 (n : Nat) (a b c : Int) : F67 n a b c = some (decide (b ≤ a ∧ a ≤ c)) := by
  simp only [F67, br_some, ob_some]
  by_cases h1 : b ≤ a <;> by_cases h2 : a ≤ c <;> simp [h1, h2]

theorem f46 {n : Nat} (hn : 4 < n) (c : V4 Int) : F46 n c = some (isC c) := by
  obtain ⟨m, rfl⟩ : ∃ m, n = m + 5 := ⟨n - 5, by omega⟩
  have w1 : w64 (0 + 1) = 1 := by decide
  have w2 : w64 (1 + 1) = 2 := by decide
  have w3 : w64 (2 + 1) = 3 := by decide
  have w4 : w64 (3 + 1) = 4 := by decide
  unfold F46
  simp only [fx_succ, F46_L1, f67, ob_some, w1, w2, w3, w4]
  obtain ⟨a, b, c, d⟩ := c
  simp only [isC]
  by_cases h0 : 0 ≤ a ∧ a ≤ 2 <;> by_cases h1 : 0 ≤ b ∧ b ≤ 2 <;> by_cases h2 : 0 ≤ c ∧ c ≤ 2 <;> by_cases h3 : 0 ≤ d ∧ d ≤ 2 <;> simp [ck, br, V4.get, h0, h1, h2, h3]

theorem f12 {n : Nat} {l : List (V4 Int)} (hl : l.length < n) (h4 : 4 < n) (hb : l.length ≤ 1048576) : F12 n l = some l := by
  unfold F12
  rw [ck_pos (by omega)]
  have := fx_for (f := F12_L1 n l) (m := l.length) (fun i => (l.take i ++ List.replicate (l.length - i) (⟨0, 0, 0, 0⟩ : V4 Int), (i : Int))) (some l) (fun i hi g => by
    have h1 : ((i : Int) < (l.length : Int)) := by omega
    have h3 : (l.take i ++ List.replicate (l.length - i) (⟨0, 0, 0, 0⟩ : V4 Int)).length = l.length := by simp; omega
    simp only [F12_L1, lt_eq, decide_eq_true h1, br_true]
    rw [ck_pos (show 0 ≤ (i : Int) ∧ (i : Int) < (l.length : Int) by omega), f21 h4, ob_some, h3, ck_pos (show 0 ≤ (i : Int) ∧ (i : Int) < (l.length : Int) by omega), Int.toNat_natCast, fill_step l _ hi, w64_nat (by omega)]) (fun g => by
    simp only [F12_L1, lt_eq, Int.lt_irrefl, decide_false, br_false]; simp) l.length 0 n (by omega) hl
  simpa using this

def dif (c d : V4 Int) : Int := (if c.x0 = d.x0 then 0 else 1) + (if c.x1 = d.x1 then 0 else 1) + (if c.x2 = d.x2 then 0 else 1) + (if c.x3 = d.x3 then 0 else 1)

theorem f38 {n : Nat} (hn : 4 < n) (c d : V4 Int) : F38 n c d = some (dif c d) := by
  obtain ⟨m, rfl⟩ : ∃ m, n = m + 5 := ⟨n - 5, by omega⟩
  unfold F38
  obtain ⟨a0, a1, a2, a3⟩ := c
  obtain ⟨b0, b1, b2, b3⟩ := d
  simp only [dif]
  by_cases h0 : a0 = b0 <;> by_cases h1 : a1 = b1 <;> by_cases h2 : a2 = b2 <;> by_cases h3 : a3 = b3 <;> simp [fx_succ, F38_L1, F38_J2, ck, br, V4.get, w64_1, w64_2, w64_3, w64_4, h0, h1, h2, h3]

theorem f40 {n : Nat} (hn : 4 < n) (c d : V4 Int) : F40 n c d = some (dif c d) := by
  obtain ⟨m, rfl⟩ : ∃ m, n = m + 5 := ⟨n - 5, by omega⟩
  unfold F40
  obtain ⟨a0, a1, a2, a3⟩ := c
  obtain ⟨b0, b1, b2, b3⟩ := d
  simp only [dif]
  by_cases h0 : a0 = b0 <;> by_cases h1 : a1 = b1 <;> by_cases h2 : a2 = b2 <;> by_cases h3 : a3 = b3 <;> simp [fx_succ, F40_L1, F40_J2, ck, br, V4.get, w64_1, w64_2, w64_3, w64_4, h0, h1, h2, h3]

theorem f29 {n : Nat} (hn : 4 < n) (c d : V4 Int) : F29 n c d = some (decide (c = d)) := by
  obtain ⟨m, rfl⟩ : ∃ m, n = m + 5 := ⟨n - 5, by omega⟩
  unfold F29
  obtain ⟨a0, a1, a2, a3⟩ := c
  obtain ⟨b0, b1, b2, b3⟩ := d
  by_cases h0 : a0 = b0 <;> by_cases h1 : a1 = b1 <;> by_cases h2 : a2 = b2 <;> by_cases h3 : a3 = b3 <;> simp [fx_succ, F29_L1, ck, br, V4.get, w64_1, w64_2, w64_3, w64_4, h0, h1, h2, h3]

theorem f14 {n : Nat} {l : List (V4 Int)} (hl : l.length < n) (h4 : 4 < n) (hb : l.length ≤ 1048576) : F14 n l l = some true := by
  unfold F14
  simp only [lt_eq, decide_true, Bool.not_true, br_false]
  exact fx_for (f := F14_L1 n l l) (m := l.length) (fun i => (i : Int)) (some true) (fun i hi g => by
    have h1 : ((i : Int) < (l.length : Int)) := by omega
    simp only [F14_L1, lt_eq, decide_eq_true h1, br_true]
    rw [ck_pos (by omega), ck_pos (by omega), f29 h4]
    simp only [decide_true, ob_some, Bool.not_true, br_false]
    rw [w64_nat (by omega)]) (fun g => by simp only [F14_L1, lt_eq, Int.lt_irrefl, decide_false, br_false]) l.length 0 n (by omega) hl

theorem f43 (n : Nat) (a b c : Int) : F43 n a b c = some (decide (b ≤ a ∧ a ≤ c)) := by
  simp only [F43, br_some, ob_some]
  by_cases h1 : b ≤ a <;> by_cases h2 : a ≤ c <;> simp [h1, h2]

theorem f49 {n : Nat} (hn : 4 < n) (c : V4 Int) : F49 n c = some (isC c) := by
  obtain ⟨m, rfl⟩ : ∃ m, n = m + 5 := ⟨n - 5, by omega⟩
  unfold F49 F71 F82 F87
  obtain ⟨a, b, c, d⟩ := c
  simp only [isC]
  by_cases h0 : 0 ≤ a ∧ a ≤ 2 <;> by_cases h1 : 0 ≤ b ∧ b ≤ 2 <;> by_cases h2 : 0 ≤ c ∧ c ≤ 2 <;> by_cases h3 : 0 ≤ d ∧ d ≤ 2 <;> simp [fx_succ, F87_L1, F83, f43, ck, br, ob, gl, w64_1, w64_2, w64_3, w64_4, h0, h1, h2, h3]

theorem f39 {n : Nat} {l : List (V4 Int)} (hl : l.length < n) (h4 : 4 < n) (hb : l.length ≤ 1048576) : F39 n l = some (l.all isC) := by
  have step : ∀ i, i < l.length → isC (gl l i) = true → ∀ g, F80_L1 n l g ((i : Nat) : Int) = g ((i + 1 : Nat) : Int) := fun i hi hc g => by
    have h1 : ((i : Int) < (l.length : Int)) := by omega
    simp only [F80_L1, lt_eq, decide_eq_true h1, br_true, F66, Int.toNat_natCast, f49 h4, ob_some, hc]
    rw [ck_pos (by omega), w64_nat (by omega)]; rfl
  unfold F39 F65 F80
  rcases first_bad (p := fun i => isC (gl l i)) l.length with h | ⟨k, h1, h2, h3⟩
  · have := fx_for (f := F80_L1 n l) (m := l.length) (fun i => ((i : Nat) : Int)) (some (-1)) (fun i hi => step i hi (h i hi)) (fun g => by simp only [F80_L1, lt_eq, Int.lt_irrefl, decide_false, br_false]) l.length 0 n (by omega) hl
    rw [show ((0 : Nat) : Int) = 0 from rfl] at this
    rw [this, all_get.2 h]; rfl
  · have := fx_leave (f := F80_L1 n l) (fun i => ((i : Nat) : Int)) k (some (k : Int)) (fun i hi => step i (by omega) (h3 i hi)) (fun g => by
      have hk : ((k : Int) < (l.length : Int)) := by omega
      simp only [F80_L1, lt_eq, decide_eq_true hk, br_true, F66, Int.toNat_natCast, f49 h4, ob_some, h2]
      rw [ck_pos (by omega)]; rfl) k 0 n (by omega) (by omega)
    rw [show ((0 : Nat) : Int) = 0 from rfl] at this
    have ha : l.all isC = false := by
      cases ha : l.all isC with
      | false => rfl
      | true => have := all_get.1 ha k h1; rw [h2] at this; cases this
    rw [this, ha]
    have : decide ((0 : Int) ≤ (k : Int)) = true := by simp
    simp only [ob_some, this]; rfl

theorem f37 {n : Nat} {l : List (V4 Int)} (hl : l.length < n) (h4 : 4 < n) (hb : l.length ≤ 1048576) : F37 n l = some (decide (l.length ≤ 27) && l.all isC) := by
  have step : ∀ i, i < l.length → i ≤ 27 → isC (gl l i) = true → ∀ g, F37_L1 n l g ((i : Nat) : Int) = g ((i + 1 : Nat) : Int) := fun i hi h27 hc g => by
    have h1 : ((i : Int) < (l.length : Int)) := by omega
    have h2 : ((i : Int) ≤ 27) := by omega
    simp only [F37_L1, lt_eq, decide_eq_true h1, decide_eq_true h2, br_true, ob_some, Int.toNat_natCast, f46 h4, hc]
    rw [ck_pos (by omega), w64_nat (by omega)]; rfl
  have stop : ∀ m : Nat, m = min l.length 28 → ∀ g, F37_L1 n l g (m : Int) = some (decide (l.length ≤ 27)) := fun m hm g => by
    have h5 : decide ((l.length : Int) ≤ 27) = decide (l.length ≤ 27) := by
      by_cases h : l.length ≤ 27
      · rw [decide_eq_true h, decide_eq_true (by omega)]
      · rw [decide_eq_false h, decide_eq_false (by omega)]
    simp only [F37_L1, lt_eq, h5]
    by_cases h : (m : Int) < (l.length : Int)
    · have h2 : ¬ ((m : Int) ≤ 27) := by omega
      simp only [decide_eq_true h, decide_eq_false h2, br_true, ob_some, br_false]
    · simp only [decide_eq_false h, br_false, ob_some]
  unfold F37
  rcases first_bad (p := fun i => isC (gl l i)) (min l.length 28) with h | ⟨k, h1, h2, h3⟩
  · have := fx_for (f := F37_L1 n l) (m := min l.length 28) (fun i => ((i : Nat) : Int)) (some (decide (l.length ≤ 27))) (fun i hi => step i (by omega) (by omega) (h i hi)) (stop _ rfl) (min l.length 28) 0 n (by omega) (by omega)
    rw [show ((0 : Nat) : Int) = 0 from rfl] at this
    rw [this]
    by_cases h27 : l.length ≤ 27
    · rw [all_get.2 fun i hi => h i (by omega)]; simp
    · simp [h27]
  · have := fx_leave (f := F37_L1 n l) (fun i => ((i : Nat) : Int)) k (some false) (fun i hi => step i (by omega) (by omega) (h3 i hi)) (fun g => by
      have hk : ((k : Int) < (l.length : Int)) := by omega
      have hk2 : ((k : Int) ≤ 27) := by omega
      simp only [F37_L1, lt_eq, decide_eq_true hk, decide_eq_true hk2, br_true, ob_some, Int.toNat_natCast, f46 h4, h2]
      rw [ck_pos (by omega)]; rfl) k 0 n (by omega) (by omega)
    rw [show ((0 : Nat) : Int) = 0 from rfl] at this
    have ha : l.all isC = false := by
      cases ha : l.all isC with
      | false => rfl
      | true => have := all_get.1 ha k (by omega); rw [h2] at this; cases this
    rw [this, ha, Bool.and_false]

theorem loops {n : Nat} (h4 : 4 < n) (a b : List (V4 Int)) : F13_L1 n a b = F11_L1 n a b := by
  funext g s
  simp only [F13_L1, F11_L1, f38 h4, f40 h4]

theorem sums {n : Nat} (h4 : 4 < n) {a b : List (V4 Int)} (hab : a.length = b.length) (hb : a.length ≤ 1048576) : ∀ (d i k : Nat) (acc : Int), i + d = a.length → d < k → ∃ v, fx (F11_L1 n a b) k (acc, (i : Int)) = some (v, true)
  | 0, i, k + 1, acc, h, _ => by
    have : i = a.length := by omega
    subst this
    exact ⟨acc, by simp only [fx_succ, F11_L1, lt_eq, Int.lt_irrefl, decide_false, br_false]⟩
  | d + 1, i, k + 1, acc, h, hk => by
    have h1 : ((i : Int) < (a.length : Int)) := by omega
    obtain ⟨v, hv⟩ := sums h4 hab hb d (i + 1) k (w64 (acc + dif (gl a i) (gl b i))) (by omega) (by omega)
    refine ⟨v, ?_⟩
    simp only [fx_succ, F11_L1, lt_eq, decide_eq_true h1, br_true, Int.toNat_natCast, f38 h4, ob_some]
    rw [ck_pos (by omega), ck_pos (by omega), w64_nat (by omega)]; exact hv
  | _, _, 0, _, _, hk => by omega

/-- the program's answer is the reference's -/
theorem f11_13 {n : Nat} {a b : List (V4 Int)} (ha : a.length < n) (hb : b.length < n) (h4 : 4 < n) (ha2 : a.length ≤ 1048576) (hb2 : b.length ≤ 1048576) : ∃ v, F11 n a b = some v ∧ F13 n a b = some v := by
  have hlen : decide ((a.length : Int) = (b.length : Int)) = decide (a.length = b.length) := by
    by_cases h : a.length = b.length
    · rw [decide_eq_true h, decide_eq_true (by omega)]
    · rw [decide_eq_false h, decide_eq_false (by omega)]
  have h27 : decide ((27 : Int) < (a.length : Int)) = !decide (a.length ≤ 27) := by
    by_cases h : a.length ≤ 27
    · rw [decide_eq_true h, decide_eq_false (by omega)]; rfl
    · rw [decide_eq_false h, decide_eq_true (by omega)]; rfl
  have n11 : F11 n a b = br (decide (a.length ≤ 27) && a.all isC && (decide (b.length ≤ 27) && b.all isC) && decide (a.length = b.length)) (fx (F11_L1 n a b) n (0, 0)) (some (0, false)) := by
    unfold F11
    rw [f37 ha h4 ha2, f37 hb h4 hb2, hlen]
    generalize fx (F11_L1 n a b) n (0, 0) = X
    generalize decide (a.length ≤ 27) = p
    generalize decide (b.length ≤ 27) = q
    generalize decide (a.length = b.length) = e
    generalize a.all isC = u
    generalize b.all isC = v
    cases p <;> cases q <;> cases e <;> cases u <;> cases v <;> rfl
  have n13 : F13 n a b = br (decide (a.length ≤ 27) && decide (a.length = b.length) && a.all isC && b.all isC) (fx (F11_L1 n a b) n (0, 0)) (some (0, false)) := by
    unfold F13
    rw [f39 ha h4 ha2, f39 hb h4 hb2, hlen, h27, loops h4]
    generalize fx (F11_L1 n a b) n (0, 0) = X
    generalize decide (a.length ≤ 27) = p
    generalize decide (a.length = b.length) = e
    generalize a.all isC = u
    generalize b.all isC = v
    cases p <;> cases e <;> cases u <;> cases v <;> rfl
  rw [n11, n13]
  by_cases he : a.length = b.length
  · obtain ⟨v, hv⟩ := sums h4 he ha2 a.length 0 n 0 (by omega) ha
    rw [show ((0 : Nat) : Int) = 0 from rfl] at hv
    rw [hv, ← he]
    generalize decide (a.length ≤ 27) = p
    generalize a.all isC = u
    generalize b.all isC = v'
    simp only [decide_true]
    cases p <;> cases u <;> cases v' <;> exact ⟨_, rfl, rfl⟩
  · rw [decide_eq_false he]
    simp only [Bool.and_false, Bool.false_and, br_false]
    exact ⟨_, rfl, rfl⟩

/-- the law -/
theorem f3 {n : Nat} {a b : List (V4 Int)} (ha : a.length ≤ 9223372036854775807) (hb : b.length ≤ 9223372036854775807) (hn : 1048580 ≤ n) : F3 n a b = some true := by
  unfold F3 F10
  simp only [lt_eq]
  rw [w64_id (x := 1048576 - (a.length : Int)) (by omega)]
  by_cases h1 : (1048576 : Int) - (a.length : Int) < 0
  · simp only [decide_eq_true h1, br_true, ob_some]; rfl
  simp only [decide_eq_false h1, br_false, ob_some]
  rw [w64_id (x := 1048576 - (a.length : Int) - (b.length : Int)) (by omega)]
  by_cases h2 : (1048576 : Int) - (a.length : Int) - (b.length : Int) < 0
  · simp only [decide_eq_true h2, br_true, ob_some]; rfl
  have h4 : 4 < n := by omega
  have e1 := f12 (n := n) (l := a) (by omega) h4 (by omega)
  have e2 := f12 (n := n) (l := b) (by omega) h4 (by omega)
  have e3 := f14 (n := n) (l := a) (by omega) h4 (by omega)
  have e4 := f14 (n := n) (l := b) (by omega) h4 (by omega)
  obtain ⟨v, e5, e6⟩ := f11_13 (n := n) (a := a) (b := b) (by omega) (by omega) h4 (by omega) (by omega)
  obtain ⟨v1, v2⟩ := v
  simp only [decide_eq_false h2, br_false, ob_some, e1, e2, e5, e6, e3, e4, decide_true, Bool.not_true, br_false]
  have : (v2 == v2) = true := by simp
  simp only [this, Bool.not_true, br_false, ob_some]
end Go.Proofs.Ytleaogcnndhdgaa

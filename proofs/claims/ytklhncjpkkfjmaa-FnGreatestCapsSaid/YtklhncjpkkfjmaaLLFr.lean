/- Plain laws: LFr. -/
import Derived.Test.YtklhncjpkkfjmaaLLSum
import Derived.Test.YtklhncjpkkfjmaaLLSo1
import Derived.KernelRfl
set_option linter.unusedVariables false
set_option linter.unusedSimpArgs false
namespace Go.Pl
open Go Go.Tv Go.RowKit
set_option linter.unusedVariables false

/-! choices and fractions -/
def chof (n k : Nat) : Nat := (List.range k).foldl (fun out i => out * (n - i) / (i + 1)) 1
noncomputable def chkCho (m : Nat) : Bool := (List.range 82).all fun n => (List.range (if n < 28 then 16 else 5)).all fun k => decide (s_l9Choose (m + 20) (n : Int) (k : Int) = some (chof n k : Int)) && decide (i_choose (m + 20) (n : Int) (k : Int) = some (chof n k : Int)) && decide (chof n k ≤ 1000000000000)
theorem chkCho_ok (m : Nat) : chkCho m = true := by kernel_rfl
theorem choose_eq {n : Nat} (hn : BIG ≤ n) {a k : Nat} (ha : a ≤ 81) (hk : k ≤ 4 ∨ a ≤ 27 ∧ k ≤ 15) : s_l9Choose n (a : Int) (k : Int) = some (chof a k : Int) ∧ i_choose n (a : Int) (k : Int) = some (chof a k : Int) ∧ chof a k ≤ 1000000000000 := by
  obtain ⟨m, rfl⟩ : ∃ m, n = m + 20 := ⟨n - 20, by unfold BIG at hn; omega⟩
  have := List.all_eq_true.1 (List.all_eq_true.1 (chkCho_ok m) a (List.mem_range.2 (by omega))) k (List.mem_range.2 (by split <;> omega))
  rw [Bool.and_eq_true, Bool.and_eq_true] at this
  exact ⟨of_decide_eq_true this.1.1, of_decide_eq_true this.1.2, of_decide_eq_true this.2⟩
def chk2c : Bool := (List.range 82).all fun n => decide (chof n 2 = c2' n) && decide (6 * chof n 3 = n * (n - 1) * (n - 2))
theorem chk2c_ok : chk2c = true := by kernel_rfl
theorem chof2 {n : Nat} (h : n ≤ 81) : chof n 2 = c2' n := by
  have := List.all_eq_true.1 chk2c_ok n (List.mem_range.2 (by omega))
  rw [Bool.and_eq_true] at this
  exact of_decide_eq_true this.1
theorem chof3 {n : Nat} (h : n ≤ 81) : 6 * chof n 3 = n * (n - 1) * (n - 2) := by
  have := List.all_eq_true.1 chk2c_ok n (List.mem_range.2 (by omega))
  rw [Bool.and_eq_true] at this
  exact of_decide_eq_true this.2
/-- a fraction without a common divisor -/
def FR (n d : Nat) : V2 Int := ⟨((n / Nat.gcd n d : Nat) : Int), ((d / Nat.gcd n d : Nat) : Int)⟩
theorem gcd_step (a b : Nat) : Nat.gcd b (a % b) = Nat.gcd a b := by rw [Nat.gcd_comm b, ← Nat.gcd_rec, Nat.gcd_comm]
theorem i_fraction_eq {n : Nat} (hn : BIG ≤ n) {a b : Nat} (hb : 0 < b) (ha1 : a ≤ 4611686018427387904) (hb1 : b ≤ 4611686018427387904) : i_fraction n (a : Int) (b : Int) = some (FR a b, true) := by
  unfold i_fraction
  have hg : 0 < Nat.gcd a b := Nat.gcd_pos_of_pos_right _ hb
  have hga : Nat.gcd a b ≤ b := Nat.gcd_le_right _ hb
  refine fx_inv (B := i_fraction_L1 n) (fun s => ∃ x y : Nat, s = ((a : Int), (b : Int), (x : Int), (y : Int), ⟨0, 0⟩) ∧ Nat.gcd x y = Nat.gcd a b) (fun s => s.2.2.2.1.toNat) (fun o => o = some (FR a b, true)) ?_ n _ ⟨a, b, rfl, rfl⟩ (big_gt hn (by simp only []; omega))
  rintro self _ ⟨x, y, rfl, hxy⟩ ih
  simp only [i_fraction_L1, lt_eq]
  by_cases hy : y = 0
  · subst hy
    rw [Nat.gcd_zero_right] at hxy
    subst hxy
    rw [br_neg (by simp), ckb_pos (by simp; omega), ckb_pos (by simp; omega)]
    have e1 : ∀ z : Nat, Int.tdiv (z : Int) ((Nat.gcd a b : Nat) : Int) = ((z / Nat.gcd a b : Nat) : Int) := fun z => rfl
    have d1 := Nat.div_le_self a (Nat.gcd a b)
    have d2 := Nat.div_le_self b (Nat.gcd a b)
    unfold FR
    rw [e1, e1]
    generalize a / Nat.gcd a b = u at d1 ⊢
    generalize b / Nat.gcd a b = v at d2 ⊢
    rw [w64_id (by omega), w64_id (by omega)]
  · rw [br_pos (by simp; omega), ckb_pos (by simp; omega)]
    have e1 : Int.tmod (x : Int) (y : Int) = ((x % y : Nat) : Int) := rfl
    rw [e1]
    have := Nat.mod_lt x (show 0 < y by omega)
    exact ih _ ⟨y, x % y, rfl, by rw [gcd_step]; exact hxy⟩ (by simp only []; omega)
theorem s_l9Cut_eq {n : Nat} (hn : BIG ≤ n) {a b : Nat} (hb : 0 < b) (ha1 : a ≤ 4611686018427387904) (hb1 : b ≤ 4611686018427387904) : s_l9Cut n (a : Int) (b : Int) = some (FR a b) := by
  unfold s_l9Cut
  have hg : 0 < Nat.gcd a b := Nat.gcd_pos_of_pos_right _ hb
  refine fx_inv (B := s_l9Cut_L1 n) (fun s => ∃ x y : Nat, s = ((a : Int), (b : Int), (x : Int), (y : Int), ⟨0, 0⟩) ∧ Nat.gcd x y = Nat.gcd a b) (fun s => s.2.2.2.1.toNat) (fun o => o = some (FR a b)) ?_ n _ ⟨a, b, rfl, rfl⟩ (big_gt hn (by simp only []; omega))
  rintro self _ ⟨x, y, rfl, hxy⟩ ih
  simp only [s_l9Cut_L1, lt_eq]
  by_cases hy : y = 0
  · subst hy
    rw [Nat.gcd_zero_right] at hxy
    subst hxy
    have em : s_l1Most n ((Nat.gcd a b : Nat) : Int) 1 = some ((Nat.gcd a b : Nat) : Int) := by
      unfold s_l1Most
      rw [br_dec]
      split
      · rfl
      · congr 1; omega
    rw [br_neg (by simp), em, ob_some, ckb_pos (by simp; omega), ob_some, ckb_pos (by simp; omega)]
    have e1 : ∀ z : Nat, Int.tdiv (z : Int) ((Nat.gcd a b : Nat) : Int) = ((z / Nat.gcd a b : Nat) : Int) := fun z => rfl
    have d1 := Nat.div_le_self a (Nat.gcd a b)
    have d2 := Nat.div_le_self b (Nat.gcd a b)
    unfold FR
    rw [e1, e1]
    generalize a / Nat.gcd a b = u at d1 ⊢
    generalize b / Nat.gcd a b = v at d2 ⊢
    rw [w64_id (by omega), w64_id (by omega)]
  · rw [br_pos (by simp; omega), ckb_pos (by simp; omega)]
    have e1 : Int.tmod (x : Int) (y : Int) = ((x % y : Nat) : Int) := rfl
    rw [e1]
    have := Nat.mod_lt x (show 0 < y by omega)
    exact ih _ ⟨y, x % y, rfl, by rw [gcd_step]; exact hxy⟩ (by simp only []; omega)
/-- a fraction is told by its two numbers -/
theorem FR_cross {a b : Nat} (hb : 0 < b) : ∃ p q : Nat, FR a b = ⟨(p : Int), (q : Int)⟩ ∧ p * b = a * q ∧ 0 < q ∧ p ≤ a ∧ q ≤ b := by
  have hg : 0 < Nat.gcd a b := Nat.gcd_pos_of_pos_right _ hb
  refine ⟨_, _, rfl, ?_, Nat.div_pos (Nat.gcd_le_right _ hb) hg, Nat.div_le_self _ _, Nat.div_le_self _ _⟩
  obtain ⟨x, hx⟩ := Nat.gcd_dvd_left a b
  obtain ⟨y, hy⟩ := Nat.gcd_dvd_right a b
  generalize Nat.gcd a b = g at hg hx hy
  subst hx hy
  rw [Nat.mul_div_cancel_left _ hg, Nat.mul_div_cancel_left _ hg, Nat.mul_left_comm, Nat.mul_assoc]
theorem FR_one (a : Nat) : FR a 1 = ⟨(a : Int), 1⟩ := by unfold FR; simp
/-- as much and as many times as much -/
theorem FR_mul {a b k : Nat} (hk : 0 < k) : FR (a * k) (b * k) = FR a b := by
  unfold FR
  rw [Nat.gcd_mul_right, Nat.mul_div_mul_right _ _ hk, Nat.mul_div_mul_right _ _ hk]
end Go.Pl

/- Plain laws: LX1. -/
import Derived.Test.YtkhfihbaopbblaaDoorLL2
set_option linter.unusedVariables false
set_option linter.unusedSimpArgs false
namespace Go.Pl
open Go Go.Tv Go.RowKit
theorem v_szIntA4S_eq {n : Nat} {a : List Card} {left : Int} (hl : a.length ≤ 9223372036854775807) (h : 0 ≤ left ∧ left ≤ 9223372036854775807) : v_szIntA4S n a left = some (if left - a.length < 0 then -1 else left - a.length) := by
  unfold v_szIntA4S
  rw [w64_id (by omega)]
  simp only [lt_eq]
  by_cases h1 : left - (a.length : Int) < 0 <;> simp [h1]
theorem v_toIntA4_eq {n : Nat} (hn : BIG ≤ n) (c : Card) : v_toIntA4 n c = some c := by
  obtain ⟨m, rfl⟩ : ∃ m, n = m + 5 := ⟨n - 5, by unfold BIG at hn; omega⟩
  unfold v_toIntA4
  simp only [fx_succ, v_toIntA4_L1, lt_eq]
  simp [inb, V4.get, V4.set]
theorem v_toIntA4S_eq {n : Nat} (hn : BIG ≤ n) {a : List Card} (hl : a.length ≤ 1099511627776) : v_toIntA4S n a = some a := by
  unfold v_toIntA4S
  rw [mkok_ok (by omega) (by omega) (by omega) (by omega)]
  simp only [ckb_true]
  have := fx_cnt (B := v_toIntA4S_L1 n) a.length (fun i => (a, (i : Int), a.take i ++ List.replicate (a.length - i) (⟨0, 0, 0, 0⟩ : Card))) (fun _ => True) (fun _ => some a) (fun self i hi _ hself => by
    simp only [v_toIntA4S_L1]
    by_cases h1 : i < a.length
    · have e1 : decide ((i : Int) < (a.length : Int)) = true := decide_eq_true (by omega)
      have e2 : i < (a.take i ++ List.replicate (a.length - i) (⟨0, 0, 0, 0⟩ : Card)).length := by simp; omega
      simp only [e1, br_true, inb_ok h1, inb_ok e2, ckb_true, toNat_cast, gl_eq h1, v_toIntA4_eq hn, ob_some, lt_eq, fill_step a _ h1]
      rw [w64_succ (by omega)]
      exact hself h1 trivial
    · have e1 : decide ((i : Int) < (a.length : Int)) = false := decide_eq_false (by omega)
      have e2 : i = a.length := by omega
      simp only [e1, br_false]
      rw [e2]; simp) n 0 (Nat.zero_le _) trivial (big_gt hn (by omega))
  simpa using this
theorem v_eqIntA4_eq {n : Nat} (hn : BIG ≤ n) (a b : Card) : v_eqIntA4 n a b = some (decide (a = b)) := by
  obtain ⟨m, rfl⟩ : ∃ m, n = m + 5 := ⟨n - 5, by unfold BIG at hn; omega⟩
  obtain ⟨a0, a1, a2, a3⟩ := a
  obtain ⟨b0, b1, b2, b3⟩ := b
  unfold v_eqIntA4
  simp only [fx_succ, v_eqIntA4_L1]
  by_cases h0 : a0 = b0 <;> by_cases h1 : a1 = b1 <;> by_cases h2 : a2 = b2 <;> by_cases h3 : a3 = b3 <;> simp [inb, V4.get, h0, h1, h2, h3]
theorem v_eqIntA4S_eq {n : Nat} (hn : BIG ≤ n) {a b : List Card} (hl : a.length ≤ 9223372036854775807) : v_eqIntA4S n a b = some (decide (a = b)) := by
  unfold v_eqIntA4S
  by_cases hlen : a.length = b.length
  · have e0 : decide ((a.length : Int) = (b.length : Int)) = true := decide_eq_true (by omega)
    simp only [e0, Bool.not_true, br_false]
    have := fx_cnt (B := v_eqIntA4S_L1 n) a.length (fun i => (a, b, (i : Int))) (fun _ => True) (fun i => some (decide (a.drop i = b.drop i))) (fun self i hi _ hself => by
      simp only [v_eqIntA4S_L1]
      by_cases h1 : i < a.length
      · have e1 : decide ((i : Int) < (a.length : Int)) = true := decide_eq_true (by omega)
        have h2 : i < b.length := by omega
        simp only [e1, br_true, inb_ok h1, inb_ok h2, ckb_true, toNat_cast, gl_eq h1, gl_eq h2, v_eqIntA4_eq hn, ob_some, lt_eq, dec_drop h1 h2]
        cases decide (a[i] = b[i]) with
        | true =>
          simp only [Bool.not_true, br_false, Bool.true_and]
          rw [w64_succ (by omega), hself h1 trivial]
        | false => simp
      · have e1 : decide ((i : Int) < (a.length : Int)) = false := decide_eq_false (by omega)
        simp only [e1, br_false]
        rw [List.drop_eq_nil_of_le (by omega), List.drop_eq_nil_of_le (by omega)]; simp) n 0 (Nat.zero_le _) trivial (big_gt hn (by omega))
    simpa using this
  · have e0 : decide ((a.length : Int) = (b.length : Int)) = false := decide_eq_false (by omega)
    simp only [e0, Bool.not_false, br_true]
    have : a ≠ b := fun h => hlen (by rw [h])
    simp [this]
theorem v_eqTable_eq {n : Nat} (hn : BIG ≤ n) {a b : List Card × (Int × Int)} (hl : a.1.length ≤ 9223372036854775807) : v_eqTable n a b = some (decide (a = b)) := by
  obtain ⟨a0, a1, a2⟩ := a
  obtain ⟨b0, b1, b2⟩ := b
  unfold v_eqTable
  rw [v_eqIntA4S_eq hn hl]
  by_cases h0 : a0 = b0 <;> by_cases h1 : a1 = b1 <;> by_cases h2 : a2 = b2 <;> simp [h0, h1, h2]
end Go.Pl

/- Plain laws: LCp. -/
import Derived.Test.YtfoielhhflbbfaaLLFl
import Derived.Test.YtfoielhhflbbfaaLLVc
import Derived.Test.YtfoielhhflbbfaaLLDh
set_option linter.unusedVariables false
set_option linter.unusedSimpArgs false
namespace Go.Pl
open Go Go.Tv Go.RowKit
set_option linter.unusedVariables false
theorem v_vHands_eq {n : Nat} (hn : BIG ≤ n) {a b : List Card} (hl : a.length ≤ 9223372036854775806) : v_vHands n a b = some (decide (a = b)) := by
  unfold v_vHands
  by_cases hlen : a.length = b.length
  · have e0 : decide ((a.length : Int) = (b.length : Int)) = true := decide_eq_true (by omega)
    simp only [e0, Bool.not_true, br_false]
    have := fx_cnt (B := v_vHands_L1 n) a.length (fun i => (a, b, (i : Int))) (fun _ => True) (fun i => some (decide (a.drop i = b.drop i))) (fun self i hi _ ih => by
      simp only [v_vHands_L1]
      by_cases h : i < a.length
      · have e1 : decide ((i : Int) < (a.length : Int)) = true := decide_eq_true (by omega)
        simp only [e1, br_true, inb_ok h, inb_ok (show i < b.length by omega), ckb_true, toNat_cast, gl_eq h, gl_eq (show i < b.length by omega), lt_eq]
        rw [List.drop_eq_getElem_cons h, List.drop_eq_getElem_cons (show i < b.length by omega)]
        by_cases hc : a[i] = b[i]
        · simp only [eqd, hc, decide_true, Bool.not_true, br_false, List.cons.injEq, true_and]
          rw [w64_succ (by omega)]; exact ih h trivial
        · have hne : ¬ (a[i] :: a.drop (i + 1) = b[i] :: b.drop (i + 1)) := fun e => hc (List.cons.inj e).1
          rw [decide_eq_false hne]; unfold eqd; rw [decide_eq_false hc]; rfl
      · have e1 : decide ((i : Int) < (a.length : Int)) = false := decide_eq_false (by omega)
        simp only [e1, br_false]
        rw [List.drop_eq_nil_of_le (by omega), List.drop_eq_nil_of_le (by omega)]; simp) n 0 (Nat.zero_le _) trivial (big_gt hn (by omega))
    simpa using this
  · have e0 : decide ((a.length : Int) = (b.length : Int)) = false := decide_eq_false (by omega)
    simp only [e0, Bool.not_false, br_true]
    have : a ≠ b := fun h => hlen (by rw [h])
    simp [this]
theorem s_l2Drop_ok {n : Nat} {h : List Card} (hl : h.length ≤ 1000) {i : Int} (h0 : 0 ≤ i) (h1 : i < h.length) : s_l2Drop n h i = some (h.take i.toNat ++ h.drop (i.toNat + 1)) := by
  obtain ⟨k, rfl⟩ : ∃ k : Nat, i = k := ⟨i.toNat, by omega⟩
  unfold s_l2Drop
  have e1 : sub h 0 k = h.take k := by unfold sub; simp
  have e2 : sub h (k + 1) h.length = h.drop (k + 1) := by unfold sub; rw [List.take_of_length_le (by simp)]
  rw [toNat_cast, ckb_pos (slb_ok (by omega) (by omega) (by omega)), e1, s_l2Own_eq (by rw [List.length_take]; omega), ob_some, lt_eq, w64_succ (by omega), ckb_pos (slb_ok (by omega) (by omega) (by omega)), toNat_cast, e2,
    ckb_pos (apok_ok (by rw [List.length_take, List.length_drop]; omega) (by rw [List.length_take, List.length_drop]; omega))]
end Go.Pl

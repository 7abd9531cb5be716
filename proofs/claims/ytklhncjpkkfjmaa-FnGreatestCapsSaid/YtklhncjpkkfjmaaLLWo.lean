/- Plain laws: LWo. -/
import Derived.Test.YtklhncjpkkfjmaaLLR
import Derived.Test.YtklhncjpkkfjmaaLLSo1
set_option linter.unusedVariables false
set_option linter.unusedSimpArgs false
namespace Go.Pl
open Go Go.Tv Go.RowKit
set_option linter.unusedVariables false

/-! cards without one -/
def wo (h : List Card) (c : Card) : List Card := h.filter fun x => !decide (x = c)
theorem sub_clr {α : Type} (z : α) {e : List α} {i : Nat} (hi : i ≤ e.length) : sub (clr z e i (e.length - i)) 0 i = e.take i := by
  unfold sub clr
  rw [Nat.sub_zero, List.drop_zero, List.append_assoc, List.take_append_of_le_length (by simp; omega), List.take_take, Nat.min_self]
theorem clr_len {α : Type} (z : α) {e : List α} {i : Nat} (hi : i ≤ e.length) : (clr z e i (e.length - i)).length = e.length := by unfold clr; simp; omega
theorem delete_ok {n : Nat} (hn : BIG ≤ n) {h : List Card} (hl : h.length ≤ 1000000) (c : Card) : slices_DeleteFunc_SA4_A4_'o_i_without_1p n h c = some (c, wo h c) := by
  unfold slices_DeleteFunc_SA4_A4_'o_i_without_1p slices_IndexFunc_SA4_A4_'l_i_without_1p
  have := fx_find (B := slices_IndexFunc_SA4_A4_'l_i_without_1p_L1 n) h (fun i => (h, (h.length : Int), (i : Int), c)) (fun x => decide (x = c)) (fun i => some ((i : Int), c)) (some ((-1), c)) (fun self i hi => ?_) (fun self => ?_) n (big_gt hn (by omega))
  · have e : ((0 : Nat) : Int) = 0 := rfl
    simp only [e] at this
    rw [this]
    cases hf : h.findIdx? (fun x => decide (x = c)) with
    | none =>
      simp only [ob_some]
      simp only [decide_true, br_true]
      congr 2
      unfold wo
      symm
      refine List.filter_eq_self.2 fun x hx => ?_
      have := List.findIdx?_eq_none_iff.1 hf x hx
      simp only [decide_eq_false_iff_not] at this
      simp [this]
    | some i =>
      obtain ⟨h1, h2, h3⟩ := List.findIdx?_eq_some_iff_getElem.1 hf
      simp only [ob_some, lt_eq]
      rw [br_neg (decide_eq_false (by omega)), w64_succ (by omega)]
      refine fx_inv (B := slices_DeleteFunc_SA4_A4_'o_i_without_1p_L1 n) (fun s => ∃ (i j : Nat) (e : List Card), s = ((i : Int), (j : Int), e, c) ∧ i < j ∧ j ≤ h.length ∧ e.length = h.length ∧ e.take i = wo (h.take j) c ∧ ∀ q, j ≤ q → gl (⟨0, 0, 0, 0⟩ : Card) e q = gl (⟨0, 0, 0, 0⟩ : Card) h q)
        (fun s => 2000000 - s.2.1.toNat) (fun o => o = some (c, wo h c)) ?_ n _ ⟨i, i + 1, h, rfl, by omega, by omega, rfl, ?_, fun q _ => rfl⟩ (big_gt hn (by simp only []; omega))
      · rintro self _ ⟨i, j, e, rfl, hij, hj, hle, ht, hr⟩ ih
        simp only [slices_DeleteFunc_SA4_A4_'o_i_without_1p_L1, i_without_1'p, ob_some, lt_eq]
        by_cases hlt : j < h.length
        · rw [br_pos (decide_eq_true (show (j : Int) < (e.length : Int) by omega)), ckb_pos (inb_ok (by omega)), toNat_cast, hr j (Nat.le_refl _), w64_succ (k := j) (by omega), gl_eq hlt]
          have hw : wo (h.take (j + 1)) c = wo (h.take j) c ++ wo [h[j]] c := by rw [take_snoc hlt]; unfold wo; rw [List.filter_append]
          by_cases hc : h[j] = c
          · rw [br_neg (show (!eqd h[j] c) = false by unfold eqd; rw [decide_eq_true hc]; rfl)]
            refine ih _ ⟨i, j + 1, e, rfl, by omega, by omega, hle, ?_, fun q hq => hr q (by omega)⟩ (by simp only []; omega)
            rw [hw, ht]
            simp [wo, hc]
          · rw [br_pos (show (!eqd h[j] c) = true by unfold eqd; rw [decide_eq_false hc]; rfl), ckb_pos (inb_ok (by omega)), w64_succ (by omega)]
            refine ih _ ⟨i + 1, j + 1, e.set i h[j], rfl, by omega, by omega, by rw [List.length_set]; exact hle, ?_, fun q hq => ?_⟩ (by simp only []; omega)
            · rw [hw, ← ht]
              rw [take_snoc (show i < (e.set i h[j]).length by rw [List.length_set]; omega), List.getElem_set_self, List.take_set_of_le (by omega)]
              simp [wo, hc]
            · rw [gl_set _ _ _ _ (by omega), if_neg (by omega)]; exact hr q (by omega)
        · have : j = h.length := by omega
          subst this
          rw [br_neg (decide_eq_false (by omega)), ckb_pos (slb_ok (by omega) (by omega) (by omega)), w64_id (x := (e.length : Int) - (i : Int)) (by omega)]
          have e1 : ((e.length : Int) - (i : Int)).toNat = e.length - i := by omega
          rw [e1, toNat_cast, ckb_pos (slb_ok (by omega) (by omega) (by rw [clr_len _ (by omega)]; omega)), w64_id (x := (i : Int) - 0) (by omega)]
          have e2 : ((i : Int) - 0).toNat = i := by omega
          rw [e2, sub_clr _ (by omega), ht, List.take_length]
      · rw [take_snoc h1]
        unfold wo
        rw [List.filter_append]
        have h2' := of_decide_eq_true h2
        have : List.filter (fun x => !decide (x = c)) (h.take i) = h.take i := by
          refine List.filter_eq_self.2 fun x hx => ?_
          obtain ⟨k, hk, rfl⟩ := List.getElem_of_mem hx
          rw [List.length_take] at hk
          have := h3 k (by omega)
          rw [List.getElem_take]
          simp only [decide_eq_true_eq] at this
          simp [this]
        rw [this]
        simp [h2']
  · have e1 : decide ((i : Int) < (h.length : Int)) = true := decide_eq_true (by omega)
    simp only [slices_IndexFunc_SA4_A4_'l_i_without_1p_L1, e1, br_true, i_without_1'p, ob_some, lt_eq]
    rw [ckb_pos (inb_ok hi), toNat_cast, gl_eq hi, w64_succ (by omega)]
    unfold eqd
    by_cases hc : h[i] = c <;> simp [hc]
  · have e1 : decide ((h.length : Int) < (h.length : Int)) = false := decide_eq_false (by omega)
    simp only [slices_IndexFunc_SA4_A4_'l_i_without_1p_L1, e1, br_false]
theorem i_without_eq {n : Nat} (hn : BIG ≤ n) {h : List Card} (hl : h.length ≤ 1000000) (c : Card) : i_without n h c = some (wo h c) := by
  unfold i_without
  rw [slices_Clone_SA4_A4__eq (by omega), ob_some, delete_ok hn hl, ob_some]
theorem i_DropCard_eq {n : Nat} (hn : BIG ≤ n) {h : List Card} (hl : h.length ≤ 1000000) (c : Card) : i_DropCard n h c = some (if hand h && h.contains c then (true, wo h c) else (false, [])) := by
  unfold i_DropCard
  rw [i_IsHand_eq hn (by omega), i_has_eq hn (by omega)]
  simp only [ob_some, br_some]
  cases hand h with
  | false => rfl
  | true =>
    cases h.contains c with
    | false => rfl
    | true =>
      show br false _ _ = _
      rw [br_false, i_without_eq hn hl, ob_some]; rfl
end Go.Pl

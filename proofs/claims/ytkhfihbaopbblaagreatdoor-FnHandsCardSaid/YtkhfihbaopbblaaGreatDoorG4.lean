/- Plain laws: LLa, LLb, LFr, LWo, LRs. -/
import Derived.Test.YtkhfihbaopbblaaGreatDoorG3
import Derived.Test.YtkhfihbaopbblaaGreatDoorPL
import Derived.Test.YtkhfihbaopbblaaGreatDoorG2
import Derived.KernelRfl
set_option linter.unusedVariables false
set_option linter.unusedSimpArgs false
namespace Go.Pl
open Go Go.Tv Go.RowKit
set_option linter.unusedVariables false
theorem v_vInts_eq {n : Nat} (hn : BIG ≤ n) {a b : List Int} (hl : a.length ≤ 9223372036854775806) : v_vInts n a b = some (decide (a = b)) := by
  unfold v_vInts
  by_cases hlen : a.length = b.length
  · have e0 : decide ((a.length : Int) = (b.length : Int)) = true := decide_eq_true (by omega)
    simp only [e0, Bool.not_true, br_false]
    have := fx_cnt (B := v_vInts_L1 n) a.length (fun i => (a, b, (i : Int))) (fun _ => True) (fun i => some (decide (a.drop i = b.drop i))) (fun self i hi _ ih => by
      simp only [v_vInts_L1]
      by_cases h : i < a.length
      · have e1 : decide ((i : Int) < (a.length : Int)) = true := decide_eq_true (by omega)
        simp only [e1, br_true, inb_ok h, inb_ok (show i < b.length by omega), ckb_true, toNat_cast, gl_eq h, gl_eq (show i < b.length by omega), lt_eq]
        rw [List.drop_eq_getElem_cons h, List.drop_eq_getElem_cons (show i < b.length by omega)]
        by_cases hc : a[i] = b[i]
        · simp only [hc, decide_true, Bool.not_true, br_false, List.cons.injEq, true_and]
          rw [w64_succ (by omega)]; exact ih h trivial
        · have hne : ¬ (a[i] :: a.drop (i + 1) = b[i] :: b.drop (i + 1)) := fun e => hc (List.cons.inj e).1
          rw [decide_eq_false hne, decide_eq_false hc]; rfl
      · have e1 : decide ((i : Int) < (a.length : Int)) = false := decide_eq_false (by omega)
        simp only [e1, br_false]
        rw [List.drop_eq_nil_of_le (by omega), List.drop_eq_nil_of_le (by omega)]; simp) n 0 (Nat.zero_le _) trivial (big_gt hn (by omega))
    simpa using this
  · have e0 : decide ((a.length : Int) = (b.length : Int)) = false := decide_eq_false (by omega)
    simp only [e0, Bool.not_false, br_true]
    have : a ≠ b := fun h => hlen (by rw [h])
    simp [this]
theorem v_vLines_eq {n : Nat} (hn : BIG ≤ n) {a b : List (V3 Int)} (hl : a.length ≤ 9223372036854775806) : v_vLines n a b = some (decide (a = b)) := by
  unfold v_vLines
  by_cases hlen : a.length = b.length
  · have e0 : decide ((a.length : Int) = (b.length : Int)) = true := decide_eq_true (by omega)
    simp only [e0, Bool.not_true, br_false]
    have := fx_cnt (B := v_vLines_L1 n) a.length (fun i => (a, b, (i : Int))) (fun _ => True) (fun i => some (decide (a.drop i = b.drop i))) (fun self i hi _ ih => by
      simp only [v_vLines_L1]
      by_cases h : i < a.length
      · have e1 : decide ((i : Int) < (a.length : Int)) = true := decide_eq_true (by omega)
        simp only [e1, br_true, inb_ok h, inb_ok (show i < b.length by omega), ckb_true, toNat_cast, gl_eq h, gl_eq (show i < b.length by omega), lt_eq]
        rw [List.drop_eq_getElem_cons h, List.drop_eq_getElem_cons (show i < b.length by omega)]
        by_cases hc : a[i] = b[i]
        · simp only [eqd, hc, decide_true, Bool.not_true, br_false, List.cons.injEq, true_and]
          rw [w64_succ (by omega)]; exact ih h trivial
        · have hne : ¬ (a[i] :: a.drop (i + 1) = b[i] :: b.drop (i + 1)) := fun e => hc (List.cons.inj e).1
          rw [decide_eq_false hne]; unfold eqd; rw [decide_eq_false hc]; rfl
      · have e1 : decide ((i : Int) < (a.length : Int)) = false := decide_eq_false (by omega)
        simp only [e1, br_false]
        rw [List.drop_eq_nil_of_le (by omega), List.drop_eq_nil_of_le (by omega)]; simp) n 0 (Nat.zero_le _) trivial (big_gt hn (by omega))
    simpa using this
  · have e0 : decide ((a.length : Int) = (b.length : Int)) = false := decide_eq_false (by omega)
    simp only [e0, Bool.not_false, br_true]
    have : a ≠ b := fun h => hlen (by rw [h])
    simp [this]
end Go.Pl
namespace Go.Pl
open Go Go.Tv Go.RowKit
set_option linter.unusedVariables false
end Go.Pl
namespace Go.Pl
open Go Go.Tv Go.RowKit
set_option linter.unusedVariables false
end Go.Pl
namespace Go.Pl
open Go Go.Tv Go.RowKit
set_option linter.unusedVariables false
def wo (h : List Card) (c : Card) : List Card := h.filter fun x => !decide (x = c)
theorem sub_clr {α : Type} (z : α) {e : List α} {i : Nat} (hi : i ≤ e.length) : sub (clr z e i (e.length - i)) 0 i = e.take i := by
  unfold sub clr
  rw [Nat.sub_zero, List.drop_zero, List.append_assoc, List.take_append_of_le_length (by simp; omega), List.take_take, Nat.min_self]
theorem clr_len {α : Type} (z : α) {e : List α} {i : Nat} (hi : i ≤ e.length) : (clr z e i (e.length - i)).length = e.length := by unfold clr; simp; omega
theorem delete_ok {n : Nat} (hn : BIG ≤ n) {h : List Card} (hl : h.length ≤ 1000000) (c : Card) : slices_DeleteFunc_SA4_A4_'o_i_without_1p n h c = some (c, wo h c) := by
  unfold slices_DeleteFunc_SA4_A4_'o_i_without_1p slices_IndexFunc_SA4_A4_'l_i_without_1p
  have := fx_find (B := slices_IndexFunc_SA4_A4_'l_i_without_1p_L1 n) h (fun i => (h, (h.length : Int), (i : Int), c)) (fun x => decide (x = c)) (fun i => some ((i : Int), c)) (some ((-1), c)) (fun self i hi => ?_) (fun self => ?_) n (big_gt hn (by omega))
  · have e : ((0 : Nat) : Int) = 0 := rfl
    simp only [e] at this
    rw [this]
    cases hf : h.findIdx? (fun x => decide (x = c)) with
    | none =>
      simp only [ob_some]
      simp only [decide_true, br_true]
      congr 2
      unfold wo
      symm
      refine List.filter_eq_self.2 fun x hx => ?_
      have := List.findIdx?_eq_none_iff.1 hf x hx
      simp only [decide_eq_false_iff_not] at this
      simp [this]
    | some i =>
      obtain ⟨h1, h2, h3⟩ := List.findIdx?_eq_some_iff_getElem.1 hf
      simp only [ob_some, lt_eq]
      rw [br_neg (decide_eq_false (by omega)), w64_succ (by omega)]
      refine fx_inv (B := slices_DeleteFunc_SA4_A4_'o_i_without_1p_L1 n) (fun s => ∃ (i j : Nat) (e : List Card), s = ((i : Int), (j : Int), e, c) ∧ i < j ∧ j ≤ h.length ∧ e.length = h.length ∧ e.take i = wo (h.take j) c ∧ ∀ q, j ≤ q → gl (⟨0, 0, 0, 0⟩ : Card) e q = gl (⟨0, 0, 0, 0⟩ : Card) h q)
        (fun s => 2000000 - s.2.1.toNat) (fun o => o = some (c, wo h c)) ?_ n _ ⟨i, i + 1, h, rfl, by omega, by omega, rfl, ?_, fun q _ => rfl⟩ (big_gt hn (by simp only []; omega))
      · rintro self _ ⟨i, j, e, rfl, hij, hj, hle, ht, hr⟩ ih
        simp only [slices_DeleteFunc_SA4_A4_'o_i_without_1p_L1, i_without_1'p, ob_some, lt_eq]
        by_cases hlt : j < h.length
        · rw [br_pos (decide_eq_true (show (j : Int) < (e.length : Int) by omega)), ckb_pos (inb_ok (by omega)), toNat_cast, hr j (Nat.le_refl _), w64_succ (k := j) (by omega), gl_eq hlt]
          have hw : wo (h.take (j + 1)) c = wo (h.take j) c ++ wo [h[j]] c := by rw [take_snoc hlt]; unfold wo; rw [List.filter_append]
          by_cases hc : h[j] = c
          · rw [br_neg (show (!eqd h[j] c) = false by unfold eqd; rw [decide_eq_true hc]; rfl)]
            refine ih _ ⟨i, j + 1, e, rfl, by omega, by omega, hle, ?_, fun q hq => hr q (by omega)⟩ (by simp only []; omega)
            rw [hw, ht]
            simp [wo, hc]
          · rw [br_pos (show (!eqd h[j] c) = true by unfold eqd; rw [decide_eq_false hc]; rfl), ckb_pos (inb_ok (by omega)), w64_succ (by omega)]
            refine ih _ ⟨i + 1, j + 1, e.set i h[j], rfl, by omega, by omega, by rw [List.length_set]; exact hle, ?_, fun q hq => ?_⟩ (by simp only []; omega)
            · rw [hw, ← ht]
              rw [take_snoc (show i < (e.set i h[j]).length by rw [List.length_set]; omega), List.getElem_set_self, List.take_set_of_le (by omega)]
              simp [wo, hc]
            · rw [gl_set _ _ _ _ (by omega), if_neg (by omega)]; exact hr q (by omega)
        · have : j = h.length := by omega
          subst this
          rw [br_neg (decide_eq_false (by omega)), ckb_pos (slb_ok (by omega) (by omega) (by omega)), w64_id (x := (e.length : Int) - (i : Int)) (by omega)]
          have e1 : ((e.length : Int) - (i : Int)).toNat = e.length - i := by omega
          rw [e1, toNat_cast, ckb_pos (slb_ok (by omega) (by omega) (by rw [clr_len _ (by omega)]; omega)), w64_id (x := (i : Int) - 0) (by omega)]
          have e2 : ((i : Int) - 0).toNat = i := by omega
          rw [e2, sub_clr _ (by omega), ht, List.take_length]
      · rw [take_snoc h1]
        unfold wo
        rw [List.filter_append]
        have h2' := of_decide_eq_true h2
        have : List.filter (fun x => !decide (x = c)) (h.take i) = h.take i := by
          refine List.filter_eq_self.2 fun x hx => ?_
          obtain ⟨k, hk, rfl⟩ := List.getElem_of_mem hx
          rw [List.length_take] at hk
          have := h3 k (by omega)
          rw [List.getElem_take]
          simp only [decide_eq_true_eq] at this
          simp [this]
        rw [this]
        simp [h2']
  · have e1 : decide ((i : Int) < (h.length : Int)) = true := decide_eq_true (by omega)
    simp only [slices_IndexFunc_SA4_A4_'l_i_without_1p_L1, e1, br_true, i_without_1'p, ob_some, lt_eq]
    rw [ckb_pos (inb_ok hi), toNat_cast, gl_eq hi, w64_succ (by omega)]
    unfold eqd
    by_cases hc : h[i] = c <;> simp [hc]
  · have e1 : decide ((h.length : Int) < (h.length : Int)) = false := decide_eq_false (by omega)
    simp only [slices_IndexFunc_SA4_A4_'l_i_without_1p_L1, e1, br_false]
theorem i_without_eq {n : Nat} (hn : BIG ≤ n) {h : List Card} (hl : h.length ≤ 1000000) (c : Card) : i_without n h c = some (wo h c) := by
  unfold i_without
  rw [slices_Clone_SA4_A4__eq (by omega), ob_some, delete_ok hn hl, ob_some]
theorem i_DropCard_eq {n : Nat} (hn : BIG ≤ n) {h : List Card} (hl : h.length ≤ 1000000) (c : Card) : i_DropCard n h c = some (if hand h && h.contains c then (true, wo h c) else (false, [])) := by
  unfold i_DropCard
  rw [i_IsHand_eq hn (by omega), i_has_eq hn (by omega)]
  simp only [ob_some, br_some]
  cases hand h with
  | false => rfl
  | true =>
    cases h.contains c with
    | false => rfl
    | true =>
      show br false _ _ = _
      rw [br_false, i_without_eq hn hl, ob_some]; rfl
end Go.Pl
namespace Go.Pl
open Go Go.Tv Go.RowKit
set_option linter.unusedVariables false
theorem U_T (g : Nat → Nat → Nat) : ∀ N, (S N fun i => ((List.range' (i + 1) (N - (i + 1))).map (g i)).sum) = T N fun j i => g i j
  | 0 => rfl
  | N + 1 => by
    rw [T_succ, ← U_T g N, S]
    have e : ∀ i, i < N → ((List.range' (i + 1) (N + 1 - (i + 1))).map (g i)).sum = ((List.range' (i + 1) (N - (i + 1))).map (g i)).sum + g i N := fun i hi => by
      rw [show N + 1 - (i + 1) = (N - (i + 1)) + 1 by omega, List.range'_concat, List.map_append, List.sum_append]
      have e3 : i + 1 + 1 * (N - (i + 1)) = N := by omega
      rw [e3]; simp
    rw [S_congr e, S_add]
    simp
theorem len_flatMap {α β : Type} (f : α → List β) : ∀ l : List α, (l.flatMap f).length = (l.map fun a => (f a).length).sum
  | [] => rfl
  | a :: l => by rw [List.flatMap_cons, List.length_append, len_flatMap f l, List.map_cons, List.sum_cons]
theorem thr_T (h : List Card) (c : Card) : thr h c = T h.length fun j i => b2 (lineB (gz h i) (gz h j) c) := by
  rw [← U_T fun i j => b2 (lineB (gz h i) (gz h j) c)]
  unfold thr prs
  rw [len_flatMap, S_range']
  refine S_congr fun i _ => ?_
  unfold pr2
  rw [len_flatMap]
  congr 1
  refine List.map_congr_left fun j _ => ?_
  unfold pr1 b2
  split <;> rfl
end Go.Pl

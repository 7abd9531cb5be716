/- Plain laws: R13. -/
import Derived.Test.YtmojhlpphinobaaLLLb
import Derived.Test.YtmojhlpphinobaaLLDh
set_option linter.unusedVariables false
set_option linter.unusedSimpArgs false
namespace Go.Pl
open Go Go.Tv Go.RowKit
set_option linter.unusedVariables false

theorem ok_bytes' {a : List Int} (h : (Ty.sl (.int .u8)).ok a) : ∀ x, x ∈ a → 0 ≤ x ∧ x ≤ 255 := fun x hx => bounds_u8 (h.2 x hx)
theorem DrawLinesAt_ok {n : Nat} (hn : BIG ≤ n) {a : List Int} (ha : ∀ x, x ∈ a → 0 ≤ x ∧ x ≤ 255) : ∃ i h, s_DrawLinesAt n a = some (i, h) ∧ h.length ≤ 29 := by
  unfold s_DrawLinesAt
  obtain ⟨c1, h, e1, hl, k1⟩ := dense_ok hn (cu0 ha) (by omega)
  rw [lt_eq, e1, ob_some]
  unfold s_l1Least s_l1Most
  simp only [br_some, ob_some]
  generalize hx : (if decide ((h.length : Int) < 27) = true then (h.length : Int) else 27) = x
  generalize hy : (if decide (x < 1) = true then (1 : Int) else x) = y
  have hy1 : 1 ≤ y := by
    rw [← hy]; split
    · omega
    · rename_i hh; simp at hh; omega
  obtain ⟨p, c2, e2, k2, p0, p1⟩ := pick_ok n k1 (by omega) (a := y) hy1
  obtain ⟨q, c3, e3, k3, q0, q1⟩ := pick_ok n k2 (by omega) (a := 24) (by omega)
  rw [e2, ob_some, e3, ob_some]
  simp only [lt_eq]
  exact ⟨_, _, rfl, hl⟩
theorem i_LinesIn_eq {n : Nat} (hn : BIG ≤ n) {h : List Card} (hl : h.length ≤ 1048576) : i_LinesIn n h = some (if hand h then (true, linesOf h) else (false, [])) := by
  unfold i_LinesIn
  rw [i_IsHand_eq hn (by omega), ob_some]
  cases hh : hand h with
  | false => rfl
  | true =>
    have := hand_len hh
    rw [Bool.not_true, br_false, i_linesIn_eq hn (by omega) (hand_all hh) (hand_nodup hh), ob_some]; rfl
theorem cntL_le {h : List Card} (h2 : (linesOf h).length ≤ 729) (i : Nat) : cntL h i ≤ 729 := by
  have : cntL h i ≤ (linesOf h).length := List.countP_le_length
  omega
theorem law_loop {n : Nat} (hn : BIG ≤ n) {h : List Card} (hh : hand h = true) : fx (v_FnLinesAt_L1 n) n ((opn h : Int), (cross h : Int), true, 0, 0, 0, h, cl h.length (fun k => (cntL h k : Int)), linesOf h) = some true := by
  have H := HandL.of hh
  have hl := hand_len hh; have h2 := lines_len27 hh
  have ho := open_pairs H
  have hc := c2'_le (show h.length ≤ 27 by omega)
  have hc27 : c2' 27 = 351 := by decide
  have hs := sum_cnt H
  have hx := cross_cnt H
  have hcl := cntL_le h2
  have hxle := cross_le h2
  have hc729 : ∀ i, c2' (cntL h i) ≤ 265356 := fun i => by
    have := c2'_le (hcl i)
    have e : c2' 729 = 265356 := by
      have := c2'_two 729; omega
    omega
  have hS : ∀ i, S i (cntL h) ≤ i * 729 := fun i => by rw [← S_const]; exact S_le fun k _ => hcl k
  have hS2 : ∀ i, S i (fun k => c2' (cntL h k)) ≤ i * 265356 := fun i => by rw [← S_const]; exact S_le fun k _ => hc729 k
  have := fx_cnt (B := v_FnLinesAt_L1 n) h.length (fun i => ((opn h : Int), (cross h : Int), true, (S i (cntL h) : Int), (S i (fun k => c2' (cntL h k)) : Int), (i : Int), h, cl h.length (fun k => (cntL h k : Int)), linesOf h)) (fun _ => True) (fun _ => some true) (fun self i hi _ ih => by
    simp only [v_FnLinesAt_L1, cl_len, lt_eq]
    have b1 := hS i; have b2' := hS2 i; have b3 := hcl i; have b4 := hc729 i
    by_cases hlt : i < h.length
    · rw [br_pos (decide_eq_true (show (i : Int) < (h.length : Int) by omega)), ckb_pos (inb_ok hlt), ckb_pos (inb_ok hlt), ckb_pos (inb_ok hlt), toNat_cast, cl_gl hlt, half_c2 (by omega), w64_id (x := (S i (cntL h) : Int) + (cntL h i : Int)) (by omega), w64_id (x := (S i (fun k => c2' (cntL h k)) : Int) + (c2' (cntL h i) : Int)) (by omega), w64_succ (by omega)]
      have := ih hlt trivial
      simp only [S] at this
      rw [show ((S i (cntL h) + cntL h i : Nat) : Int) = (S i (cntL h) : Int) + (cntL h i : Int) by omega, show ((S i (fun k => c2' (cntL h k)) + c2' (cntL h i) : Nat) : Int) = (S i (fun k => c2' (cntL h k)) : Int) + (c2' (cntL h i) : Int) by omega] at this
      exact this
    · have : i = h.length := by omega
      subst this
      rw [br_neg (decide_eq_false (by omega)), hs, hx, w64_id (x := 3 * ((linesOf h).length : Int)) (by omega), decide_eq_true rfl]
      have e1 : w64 (3 * ((linesOf h).length : Int) + (opn h : Int)) = (c2' h.length : Int) := by
        rw [w64_id (by unfold opn at *; omega)]; unfold opn; omega
      have e2 : w64 ((h.length : Int) * w64 ((h.length : Int) - 1)) = 2 * (c2' h.length : Int) := by
        have h3 := c2'_two h.length
        cases hlen : h.length with
        | zero => decide
        | succ m =>
          rw [hlen] at h3
          simp only [Nat.add_sub_cancel] at h3
          have e5 : w64 (((m + 1 : Nat) : Int) - 1) = (m : Int) := by rw [w64_id (by omega)]; omega
          have e6 : (((m + 1 : Nat) : Int) * (m : Int)) = (((m + 1) * m : Nat) : Int) := by simp
          rw [e5, e6, ← h3, w64_id (by rw [hlen] at hc; omega)]; omega
      rw [e1, e2, w64_id (x := 2 * (c2' h.length : Int)) (by omega)]
      have e3 : decide (((3 * (linesOf h).length : Nat) : Int) = 3 * ((linesOf h).length : Int)) = true := decide_eq_true (by omega)
      simp only [br_true, ob_some, e3, decide_true]) n 0 (Nat.zero_le _) trivial (big_gt hn (by omega))
  exact this
theorem law_FnLinesAt {n : Nat} (hn : BIG ≤ n) (a : List Int) (ok : (Ty.sl (.int .u8)).ok a) : v_FnLinesAt n a = some true := by
  have hb := ok_bytes' ok
  unfold v_FnLinesAt v_vBig
  rw [ob_some, br_dec]
  split
  · rfl
  obtain ⟨i, h, e1, hl⟩ := DrawLinesAt_ok hn hb
  rw [e1, ob_some]
  simp only []
  rw [i_LinesAt_eq hn (by omega), ob_some, s_LinesAt_eq hn (by omega), ob_some, i_LineCounts_eq hn (by omega), ob_some, s_LineCounts_eq hn (by omega), ob_some, i_OpenPairs_eq hn (by omega), ob_some, s_OpenPairs_eq hn (by omega), ob_some,
    i_CountCrossings_eq hn (by omega), ob_some, s_CountCrossings_eq hn (by omega), ob_some, i_LinesIn_eq hn (by omega)]
  cases hh : hand h with
  | false =>
    have e1 : LA h i = (false, []) := by unfold LA; rw [hh]; rfl
    have e2 : LC' h = (false, []) := by unfold LC'; rw [hh]; rfl
    have e3 : OP h = (0, false) := by unfold OP; rw [hh]; rfl
    have e4 : CX h = (0, false) := by unfold CX; rw [hh]; rfl
    rw [e1, e2, e3, e4]
    simp [v_vLines_eq hn, v_vInts_eq hn]
  | true =>
    have h2 := lines_len27 hh
    have hl27 := hand_len hh
    have e2 : LC' h = (true, cl h.length fun k => (cntL h k : Int)) := by unfold LC'; rw [hh]; rfl
    have e3 : OP h = ((opn h : Int), true) := by unfold OP; rw [hh]; rfl
    have e4 : CX h = ((cross h : Int), true) := by unfold CX; rw [hh]; rfl
    have hLA : (LA h i).2.length ≤ 729 := by
      unfold LA; split
      · exact Nat.le_trans (List.length_filter_le _ _) h2
      · simp
    have hloop := law_loop hn hh
    rw [e2, e3, e4]
    simp only [v_vLines_eq hn (a := (LA h i).2) (by omega), v_vInts_eq hn (a := cl h.length fun k => (cntL h k : Int)) (by rw [cl_len]; omega), beq_self_eq_true, decide_true, Bool.not_true, br_false, br_some, ob_some, Bool.false_eq_true, if_false, if_true, hloop]
    by_cases hi : 0 ≤ i ∧ i ≤ (h.length : Int) - 1
    · have e5 : LA h i = (true, (linesOf h).filter fun l => onI l i) := by unfold LA; rw [hh, decide_eq_true hi]; rfl
      obtain ⟨k, rfl⟩ : ∃ k : Nat, i = k := ⟨i.toNat, by omega⟩
      have e6 : (((linesOf h).filter fun l => onI l (k : Int)).length : Int) = (cntL h k : Int) := by rw [← List.countP_eq_length_filter]; rfl
      rw [e5]
      simp only [br_true, cl_len]
      rw [inb_ok (by omega), toNat_cast, cl_gl (by omega), e6]
      simp
    · have e5 : LA h i = (false, []) := by unfold LA; rw [hh, decide_eq_false hi]; rfl
      rw [e5]
      simp
end Go.Pl

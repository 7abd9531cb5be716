/- Plain laws: LLb. -/
import Derived.Test.YtklhncjpkkfjmaaLLLa
set_option linter.unusedVariables false
set_option linter.unusedSimpArgs false
namespace Go.Pl
open Go Go.Tv Go.RowKit
set_option linter.unusedVariables false

/-! open pairs, crossings -/
theorem c2'_le {n m : Nat} (h : n ≤ m) : c2' n ≤ c2' m := by
  induction m with
  | zero => have : n = 0 := by omega
            subst this; exact Nat.le_refl _
  | succ m ih =>
    by_cases hn : n = m + 1
    · subst hn; exact Nat.le_refl _
    · have := ih (by omega); rw [c2']; omega
def opn (h : List Card) : Nat := T h.length fun i k => b2 (!h.contains (third (gz h i) (gz h k)))
def OP (h : List Card) : Int × Bool := if hand h then ((opn h : Int), true) else (0, false)
theorem half_c2 {n : Nat} (h : n ≤ 1000000) : w64 (Int.tdiv (w64 ((n : Int) * w64 ((n : Int) - 1))) 2) = (c2' n : Int) := by
  have h2 := c2'_two n
  cases n with
  | zero => decide
  | succ n =>
    have hb : (n + 1) * n ≤ 1000000 * 1000000 := Nat.mul_le_mul h (by omega)
    have e1 : w64 (((n + 1 : Nat) : Int) - 1) = (n : Int) := by rw [w64_id (by omega)]; omega
    have e2 : (((n + 1 : Nat) : Int) * (n : Int)) = (((n + 1) * n : Nat) : Int) := by simp
    rw [e1, e2, w64_id (x := (((n + 1) * n : Nat) : Int)) (by omega)]
    simp only [Nat.add_sub_cancel] at h2
    have e3 : Int.tdiv (((n + 1) * n : Nat) : Int) 2 = (((n + 1) * n / 2 : Nat) : Int) := rfl
    rw [e3, w64_id (by omega)]
    omega
theorem i_OpenPairs_eq {n : Nat} (hn : BIG ≤ n) {h : List Card} (hl : h.length ≤ 1048576) : i_OpenPairs n h = some (OP h) := by
  unfold i_OpenPairs OP
  rw [i_IsHand_eq hn (by omega), ob_some]
  cases hh : hand h with
  | false => rfl
  | true =>
    have H := HandL.of hh
    have := hand_len hh; have h2 := lines_len27 hh
    have ho := open_pairs H
    have hc := c2'_le (show h.length ≤ 27 by omega)
    have hc27 : c2' 27 = 351 := by decide
    rw [Bool.not_true, br_false, i_linesIn_eq hn (by omega) (hand_all hh) (hand_nodup hh)]
    simp only [lt_eq, ob_some, if_true]
    rw [half_c2 (by omega), w64_id (x := 3 * ((linesOf h).length : Int)) (by omega), w64_id (by omega)]
    congr 2
    unfold opn; omega
theorem s_OpenPairs_eq {n : Nat} (hn : BIG ≤ n) {h : List Card} (hl : h.length ≤ 1048576) : s_OpenPairs n h = some (OP h) := by
  unfold s_OpenPairs OP
  cases hh : hand h with
  | false =>
    obtain ⟨m, rfl⟩ : ∃ m, n = m + 1 := ⟨n - 1, by unfold BIG at hn; omega⟩
    rw [fx_succ]
    simp only [s_OpenPairs_L2, s_l2Hand_eq hn (show h.length ≤ 9223372036854775807 by omega), ob_some, hh, br_some]
    have : (if decide ((0 : Int) < (h.length : Int)) = true then false else false) = false := by split <;> rfl
    rw [this]; rfl
  | true =>
    have H := HandL.of hh
    have := hand_len hh; have h2 := lines_len27 hh
    have ho := open_pairs H
    have hc := c2'_le (show h.length ≤ 27 by omega)
    have hc27 : c2' 27 = 351 := by decide
    rw [if_pos rfl]
    have hs := s_l2Hand_eq hn (h := h) (show h.length ≤ 9223372036854775807 by omega)
    rw [hh] at hs
    refine fx_tri (B := s_OpenPairs_L2 n) (C := s_OpenPairs_L1 n) h.length (fun i a => (h, a, (i : Int))) (fun i k a => (h, a, (i : Int), (k : Int))) (fun i k => b2 (!h.contains (third (gz h i) (gz h k)))) (fun a => some (a, true)) 10000 n (big_gt hn (by omega)) ?_ ?_ ?_ ?_ (by omega)
    · intro self i a hi h0 h1
      simp only [s_OpenPairs_L2, hs, ob_some, br_some]
      rw [decide_eq_true (show (i : Int) < (h.length : Int) by omega), if_pos rfl, br_true]; rfl
    · intro self self2 i k a hi hk h0 h1
      simp only [s_OpenPairs_L1, lt_eq]
      rw [br_pos (decide_eq_true (show (k : Int) < (i : Int) by omega)), ckb_pos (inb_ok hi), ckb_pos (inb_ok (by omega)), toNat_cast, toNat_cast, s_l2Third_eq hn (gl_C H.c hi) (gl_C H.c (by omega)), ob_some, s_l2Has_eq hn (by omega), ob_some, w64_succ (k := k) (by omega)]
      cases hb : h.contains (third (gz h i) (gz h k)) with
      | true =>
        rw [Bool.not_true, br_false]
        simp [b2]
      | false =>
        rw [hb] at h1
        have hb1 : (b2 (!false) : Nat) = 1 := rfl
        rw [hb1] at h1
        rw [Bool.not_false, br_true, w64_id (by omega)]; rfl
    · intro self self2 i a hi h0 h1
      simp only [s_OpenPairs_L1, lt_eq]
      rw [br_neg (decide_eq_false (by omega)), w64_succ (by omega)]
    · intro self a h0 h1
      simp only [s_OpenPairs_L2, hs, ob_some, br_some]
      rw [decide_eq_false (show ¬ (h.length : Int) < (h.length : Int) by omega)]
      rfl
def CX (h : List Card) : Int × Bool := if hand h then ((cross h : Int), true) else (0, false)
theorem comm_le3 (a b : V3 Int) : comm a b ≤ 3 := by
  unfold comm
  have := hasn_le a.x0 b; have := hasn_le a.x1 b; have := hasn_le a.x2 b
  omega
theorem T_le {n k : Nat} {g : Nat → Nat → Nat} (h : ∀ i j, g i j ≤ k) : T n g ≤ c2' n * k := by
  rw [← T_const k n]
  exact S_le fun i _ => S_le fun j _ => h i j
theorem cross_le {h : List Card} (hl : (linesOf h).length ≤ 729) : cross h ≤ 1000000 := by
  have h1 := T_le (n := (linesOf h).length) (k := 3) (g := fun i k => comm (gl ⟨0, 0, 0⟩ (linesOf h) i) (gl ⟨0, 0, 0⟩ (linesOf h) k)) fun i j => comm_le3 _ _
  have hc := c2'_two (linesOf h).length
  have hb : (linesOf h).length * ((linesOf h).length - 1) ≤ 729 * 729 := Nat.mul_le_mul hl (by omega)
  unfold cross; omega
theorem i_CountCrossings_eq {n : Nat} (hn : BIG ≤ n) {h : List Card} (hl : h.length ≤ 1048576) : i_CountCrossings n h = some (CX h) := by
  unfold i_CountCrossings CX
  rw [i_IsHand_eq hn (by omega), ob_some]
  cases hh : hand h with
  | false => rfl
  | true =>
    have := hand_len hh; have h2 := lines_len27 hh
    have hx := cross_le h2
    rw [Bool.not_true, br_false, i_linesIn_eq hn (by omega) (hand_all hh) (hand_nodup hh), ob_some, if_pos rfl]
    unfold cross at hx ⊢
    generalize linesOf h = L at h2 hx ⊢
    refine fx_tri (B := i_CountCrossings_L2 n) (C := i_CountCrossings_L1 n) L.length (fun i a => (a, (L.length : Int), (i : Int), L)) (fun i k a => (a, (L.length : Int), (i : Int), 0, (i : Int), (i : Int), (k : Int), L, gl ⟨0, 0, 0⟩ L i)) (fun i k => comm (gl ⟨0, 0, 0⟩ L i) (gl ⟨0, 0, 0⟩ L k)) (fun a => some (a, true)) 1000000 n (big_gt hn (by omega)) ?_ ?_ ?_ ?_ (by omega)
    · intro self i a hi h0 h1
      simp only [i_CountCrossings_L2]
      rw [br_pos (decide_eq_true (show (i : Int) < (L.length : Int) by omega)), ckb_pos (inb_ok hi), ckb_pos (slb_ok (by omega) (by omega) (by omega)), toNat_cast, w64_id (x := (i : Int) - 0) (by omega)]
      have : ((((i : Int) - 0).toNat : Nat) : Int) = (i : Int) := by omega
      rw [this]; rfl
    · intro self self2 i k a hi hk h0 h1
      simp only [i_CountCrossings_L1, lt_eq]
      have hi' : cand (inb (k : Int) (i : Int).toNat) (nlt ((0 : Int).toNat + (k : Int).toNat) L.length) = true := by
        rw [toNat_cast, inb_ok hk]
        exact decide_eq_true (by show 0 + (k : Int).toNat < L.length; rw [toNat_cast]; omega)
      rw [br_pos (decide_eq_true (show (k : Int) < (i : Int) by omega)), ckb_pos hi', i_common_eq hn, ob_some]
      have e0 : (0 : Int).toNat + (k : Int).toNat = k := by rw [toNat_cast]; exact Nat.zero_add k
      rw [e0, w64_succ (k := k) (by omega)]
      have := comm_le3 (gl ⟨0, 0, 0⟩ L i) (gl ⟨0, 0, 0⟩ L k)
      unfold comm at h1 this ⊢
      rw [w64_id (by omega)]; rfl
    · intro self self2 i a hi h0 h1
      simp only [i_CountCrossings_L1, lt_eq]
      rw [br_neg (decide_eq_false (by omega)), w64_succ (by omega)]
    · intro self a h0 h1
      simp only [i_CountCrossings_L2]
      rw [br_neg (decide_eq_false (by omega))]
theorem s_CountCrossings_eq {n : Nat} (hn : BIG ≤ n) {h : List Card} (hl : h.length ≤ 1048576) : s_CountCrossings n h = some (CX h) := by
  unfold s_CountCrossings CX
  rw [s_l2Hand_eq hn (by omega), ob_some]
  cases hh : hand h with
  | false => rfl
  | true =>
    have H := HandL.of hh
    have := hand_len hh; have h2 := lines_len27 hh
    have hx := cross_le h2
    have hc1 := cross_one H
    rw [Bool.not_true, br_false, s_l2Lines_eq hn (by omega) (hand_all hh), ob_some, if_pos rfl, ← hc1]
    rw [← hc1] at hx
    clear hc1
    generalize linesOf h = L at h2 hx ⊢
    refine fx_tri (B := s_CountCrossings_L2 n) (C := s_CountCrossings_L1 n) L.length (fun i a => (a, (i : Int), L)) (fun i k a => (a, (i : Int), (k : Int), L)) (fun i k => b2 (decide (common (gl ⟨0, 0, 0⟩ L i) (gl ⟨0, 0, 0⟩ L k) = 1))) (fun a => some (a, true)) 1000000 n (big_gt hn (by omega)) ?_ ?_ ?_ ?_ (by omega)
    · intro self i a hi h0 h1
      simp only [s_CountCrossings_L2]
      rw [br_pos (decide_eq_true (show (i : Int) < (L.length : Int) by omega))]; rfl
    · intro self self2 i k a hi hk h0 h1
      simp only [s_CountCrossings_L1, lt_eq]
      rw [br_pos (decide_eq_true (show (k : Int) < (i : Int) by omega)), ckb_pos (inb_ok hi), ckb_pos (inb_ok (by omega)), toNat_cast, toNat_cast, s_l7Common_eq hn, ob_some, w64_succ (k := k) (by omega)]
      by_cases hc : common (gl ⟨0, 0, 0⟩ L i) (gl ⟨0, 0, 0⟩ L k) = 1
      · rw [hc] at h1 ⊢
        have hb1 : (b2 (decide ((1 : Nat) = 1)) : Nat) = 1 := rfl
        rw [hb1] at h1 ⊢
        rw [br_pos (decide_eq_true (show ((1 : Nat) : Int) = 1 from rfl)), w64_id (by omega)]; rfl
      · rw [br_neg (decide_eq_false (by omega)), decide_eq_false hc]
        simp [b2]
    · intro self self2 i a hi h0 h1
      simp only [s_CountCrossings_L1, lt_eq]
      rw [br_neg (decide_eq_false (by omega)), w64_succ (by omega)]
    · intro self a h0 h1
      simp only [s_CountCrossings_L2]
      rw [br_neg (decide_eq_false (by omega))]
end Go.Pl

/- Plain laws: LTh. -/
import Derived.Test.YtklhncjpkkfjmaaLLR
import Derived.Test.YtklhncjpkkfjmaaLLSo1
import Derived.Test.YtklhncjpkkfjmaaLLD2
set_option linter.unusedVariables false
set_option linter.unusedSimpArgs false
namespace Go.Pl
open Go Go.Tv Go.RowKit
set_option linter.unusedVariables false

/-! pairs of a hand with which a card makes a line -/
theorem t3_in012 {x : Int} (h : 0 ≤ x ∧ x ≤ 2) : x = 0 ∨ x = 1 ∨ x = 2 := by omega
theorem t3_self {x : Int} (h : 0 ≤ x ∧ x ≤ 2) : t3 x x = x := by rcases t3_in012 h with rfl | rfl | rfl <;> decide
theorem t3_back' {x y : Int} (hx : 0 ≤ x ∧ x ≤ 2) (hy : 0 ≤ y ∧ y ≤ 2) : t3 x (t3 x y) = y := by
  rcases t3_in012 hx with rfl | rfl | rfl <;> rcases t3_in012 hy with rfl | rfl | rfl <;> decide
theorem th_self {a : Card} (h : isC a = true) : third a a = a := by
  rw [isC_iff] at h
  unfold third
  rw [t3_self h.1, t3_self h.2.1, t3_self h.2.2.1, t3_self h.2.2.2]
theorem th_comm (a b : Card) : third a b = third b a := by
  have e : ∀ x y : Int, t3 x y = t3 y x := fun x y => by unfold t3; congr 1; omega
  unfold third; rw [e a.x0, e a.x1, e a.x2, e a.x3]
theorem th_back {a b : Card} (ha : isC a = true) (hb : isC b = true) : third a (third a b) = b := by
  rw [isC_iff] at ha hb
  unfold third
  simp only []
  rw [t3_back' ha.1 hb.1, t3_back' ha.2.1 hb.2.1, t3_back' ha.2.2.1 hb.2.2.1, t3_back' ha.2.2.2 hb.2.2.2]
theorem th_ne {a b : Card} (ha : isC a = true) (hb : isC b = true) (h : a ≠ b) : third a b ≠ a := fun e => by
  have := th_back ha hb
  rw [e, th_self ha] at this
  exact h this
theorem th_ne2 {a b : Card} (ha : isC a = true) (hb : isC b = true) (h : a ≠ b) : third a b ≠ b := by
  rw [th_comm]; exact th_ne hb ha (Ne.symm h)
/-- the cards are cards, and different ones -/
structure HandL (h : List Card) : Prop where
  c : AllC h
  nd : h.Nodup
  len : h.length ≤ 100
theorem HandL.of {h : List Card} (hh : hand h = true) : HandL h := ⟨hand_all hh, hand_nodup hh, by have := hand_len hh; omega⟩
theorem HandL.ne {h : List Card} (H : HandL h) {i j : Nat} (hi : i < h.length) (hj : j < h.length) (hne : i ≠ j) : gl (⟨0, 0, 0, 0⟩ : Card) h i ≠ gl (⟨0, 0, 0, 0⟩ : Card) h j := by
  rw [gl_eq hi, gl_eq hj]
  exact fun e => hne ((List.getElem_inj H.nd).1 e)
def pr1 (h : List Card) (c : Card) (i j : Nat) : List (V2 Int) := if lineB (gl ⟨0, 0, 0, 0⟩ h i) (gl ⟨0, 0, 0, 0⟩ h j) c = true then [⟨i, j⟩] else []
def pr2 (h : List Card) (c : Card) (i : Nat) : List (V2 Int) := (List.range' (i + 1) (h.length - (i + 1))).flatMap (pr1 h c i)
def prs (h : List Card) (c : Card) : List (V2 Int) := (List.range' 0 (h.length - 0)).flatMap (pr2 h c)
def thr (h : List Card) (c : Card) : Nat := (prs h c).length
theorem pr1_len {h : List Card} {c : Card} {i j : Nat} : (pr1 h c i j).length ≤ 1 := by unfold pr1; split <;> simp
theorem pr2_len {h : List Card} {c : Card} {i : Nat} : (pr2 h c i).length ≤ h.length := by
  have := flen (l := List.range' (i + 1) (h.length - (i + 1))) (f := pr1 h c i) (M := 1) fun _ _ => pr1_len
  rw [List.length_range', Nat.mul_one] at this
  unfold pr2; omega
theorem thr_len {h : List Card} {c : Card} : thr h c ≤ h.length * h.length := by
  have := flen (l := List.range' 0 (h.length - 0)) (f := pr2 h c) (M := h.length) fun _ _ => pr2_len
  rw [List.length_range', Nat.sub_zero] at this
  unfold thr prs; exact this
theorem s_l2Through_eq {n : Nat} (hn : BIG ≤ n) {h : List Card} (H : HandL h) (c : Card) : s_l2Through n h c = some (thr h c : Int) := by
  have hl := H.len
  have hb := thr_len (h := h) (c := c)
  have hb2 : h.length * h.length ≤ 100 * 100 := Nat.mul_le_mul hl hl
  unfold s_l2Through
  have := fx_app (B := s_l2Through_L2 n) h.length (fun i a => (h, ((a.length : Nat) : Int), (i : Int), c)) (pr2 h c) (fun a => some ((a.length : Nat) : Int)) 1000000 (fun self i a hi hM => by
    simp only [s_l2Through_L2, lt_eq]
    rw [br_pos (decide_eq_true (show (i : Int) < (h.length : Int) by omega)), w64_succ (by omega)]
    refine fx_app (B := s_l2Through_L1 n self) h.length (fun j a => (h, ((a.length : Nat) : Int), (i : Int), (j : Int), c)) (pr1 h c i) (fun a => self (h, ((a.length : Nat) : Int), ((i + 1 : Nat) : Int), c)) 1000000 (fun self2 j a hj hM2 => ?_) (fun self2 a => by
      simp only [s_l2Through_L1, lt_eq]
      rw [br_neg (decide_eq_false (by omega)), w64_succ (by omega)]) n (i + 1) a (by omega) (big_gt hn (by omega)) (by unfold pr2 at hM; exact hM)
    simp only [s_l2Through_L1, lt_eq]
    rw [br_pos (decide_eq_true (show (j : Int) < (h.length : Int) by omega)), ckb_pos (inb_ok hi), ckb_pos (inb_ok hj), toNat_cast, toNat_cast, s_l2Line_eq hn c (gl_C H.c hi) (gl_C H.c hj), ob_some, w64_succ (k := j) (by omega), w64_succ (k := a.length) (by omega)]
    unfold pr1
    cases lineB (gl ⟨0, 0, 0, 0⟩ h i) (gl ⟨0, 0, 0, 0⟩ h j) c with
    | true => simp
    | false => simp) (fun self a => by
    simp only [s_l2Through_L2]
    rw [br_neg (decide_eq_false (by omega))]) n 0 [] (Nat.zero_le _) (big_gt hn (by omega)) (by unfold thr prs at hb; simp only [List.length_nil]; omega)
  rw [List.nil_append] at this
  exact this
theorem lineB_iff {a b c : Card} (ha : isC a = true) (hb : isC b = true) (hne : a ≠ b) : (if (if (!eqd a c) = true then !eqd b c else false) = true then eqd (third a b) c else false) = lineB a b c := by
  unfold lineB
  by_cases h : third a b = c
  · have h1 : a ≠ c := fun e => th_ne ha hb hne (h.trans e.symm)
    have h2 : b ≠ c := fun e => th_ne2 ha hb hne (h.trans e.symm)
    simp [eqd, h, h1, h2, hne]
  · simp [eqd, h]
theorem i_pairsFor_eq {n : Nat} (hn : BIG ≤ n) {h : List Card} (H : HandL h) (c : Card) : i_pairsFor n h c = some (prs h c) := by
  have hl := H.len
  have hb := thr_len (h := h) (c := c)
  have hb2 : h.length * h.length ≤ 100 * 100 := Nat.mul_le_mul hl hl
  unfold i_pairsFor
  have := fx_app (B := i_pairsFor_L2 n) h.length (fun i a => (h, h, (h.length : Int), (i : Int), c, a)) (pr2 h c) some 1000000 (fun self i a hi hM => by
    simp only [i_pairsFor_L2, lt_eq]
    rw [br_pos (decide_eq_true (show (i : Int) < (h.length : Int) by omega)), w64_succ (by omega), ckb_pos (inb_ok hi), toNat_cast]
    refine fx_app (B := i_pairsFor_L1 n self) h.length (fun j a => (h, (i : Int), (j : Int), h, (h.length : Int), (i : Int), c, a, gl ⟨0, 0, 0, 0⟩ h i)) (pr1 h c i) (fun a => self (h, h, (h.length : Int), ((i + 1 : Nat) : Int), c, a)) 1000000 (fun self2 j a hj hM2 => ?_) (fun self2 a => by
      simp only [i_pairsFor_L1, lt_eq]
      rw [br_neg (decide_eq_false (by omega)), w64_succ (by omega)]) n (i + 1) a (by omega) (big_gt hn (by omega)) (by unfold pr2 at hM; exact hM)
    simp only [i_pairsFor_L1, lt_eq]
    rw [br_pos (decide_eq_true (show (j : Int) < (h.length : Int) by omega)), inb_ok hj, toNat_cast, i_third_eq hn (gl_C H.c hi) (gl_C H.c hj), w64_succ (k := j) (by omega)]
    simp only [ckb_true, ob_some, br_some]
    unfold pr1 at hM2 ⊢
    by_cases hij : i = j
    · subst hij
      have e1 : lineB (gl ⟨0, 0, 0, 0⟩ h i) (gl ⟨0, 0, 0, 0⟩ h i) c = false := by unfold lineB; simp
      have e2 : (if (if (!eqd (gl ⟨0, 0, 0, 0⟩ h i) c) = true then !eqd (gl ⟨0, 0, 0, 0⟩ h i) c else false) = true then eqd (third (gl ⟨0, 0, 0, 0⟩ h i) (gl ⟨0, 0, 0, 0⟩ h i)) c else false) = false := by
        rw [th_self (gl_C H.c hi)]
        cases eqd (gl ⟨0, 0, 0, 0⟩ h i) c <;> simp
      rw [e2, e1]; simp
    · rw [lineB_iff (gl_C H.c hi) (gl_C H.c hj) (H.ne hi hj hij)]
      cases hx : lineB (gl ⟨0, 0, 0, 0⟩ h i) (gl ⟨0, 0, 0, 0⟩ h j) c with
      | true =>
        rw [hx] at hM2
        simp only [if_true, List.length_singleton] at hM2
        rw [br_true, ckb_pos (apok_ok (by omega) (by omega))]; simp
      | false => simp) (fun self a => by
    simp only [i_pairsFor_L2]
    rw [br_neg (decide_eq_false (by omega))]) n 0 [] (Nat.zero_le _) (big_gt hn (by omega)) (by unfold thr prs at hb; simp only [List.length_nil]; omega)
  rw [List.nil_append] at this
  exact this
theorem i_isBlocked_eq {n : Nat} (hn : BIG ≤ n) {h : List Card} (H : HandL h) (c : Card) : i_isBlocked n h c = some (decide (0 < thr h c)) := by
  unfold i_isBlocked
  rw [i_pairsFor_eq hn H, ob_some]
  congr 1; congr 1; apply propext; unfold thr; omega

/-! cards that a hand has not -/
def outOK (h : List Card) (b : Bool) (k : Nat) : Bool := !h.contains (cardAt k) && (decide (0 < thr h (cardAt k)) == b)
def outs (h : List Card) (b : Bool) : List Int := (List.range' 0 (81 - 0)).flatMap fun k => if outOK h b k = true then [(k : Int)] else []
theorem outs_len {h : List Card} {b : Bool} : (outs h b).length ≤ 81 := by
  have := flen (l := List.range' 0 (81 - 0)) (f := fun k => if outOK h b k = true then [(k : Int)] else []) (M := 1) fun k _ => by split <;> simp
  rw [List.length_range'] at this
  unfold outs; omega
theorem i_outside_eq {n : Nat} (hn : BIG ≤ n) {h : List Card} (H : HandL h) (b : Bool) : i_outside n h b = some (outs h b) := by
  have hl := H.len
  have hb := outs_len (h := h) (b := b)
  unfold i_outside
  have := fx_app (B := i_outside_L1 n) 81 (fun i a => (h, b, (i : Int), a)) (fun k => if outOK h b k = true then [(k : Int)] else []) some 1000000 (fun self i a hi hM => by
    simp only [i_outside_L1, lt_eq]
    rw [br_pos (decide_eq_true (show (i : Int) < 81 by omega)), i_card_eq n (by omega), ob_some, i_has_eq hn (by omega), ob_some, i_isBlocked_eq hn H, ob_some, w64_succ (by omega)]
    simp only [br_some, ob_some]
    have e : (if (!h.contains (cardAt (i : Int))) = true then decide (0 < thr h (cardAt (i : Int))) == b else false) = outOK h b i := by
      unfold outOK; cases h.contains (cardAt (i : Int)) <;> simp
    rw [e]
    cases ho : outOK h b i with
    | true =>
      rw [ho] at hM
      simp only [if_true, List.length_singleton] at hM
      rw [br_true, ckb_pos (apok_ok (by omega) (by omega))]; simp
    | false => simp) (fun self a => by
    simp only [i_outside_L1]
    rw [br_neg (decide_eq_false (show ¬ ((81 : Nat) : Int) < 81 by omega))]) n 0 [] (Nat.zero_le _) (big_gt hn (by omega)) (by unfold outs at hb; simp only [List.length_nil]; omega)
  rw [List.nil_append] at this
  exact this
theorem s_l3Cards_eq {n : Nat} (hn : BIG ≤ n) {h : List Card} (H : HandL h) (b : Bool) : s_l3Cards n h b = some (outs h b) := by
  have hl := H.len
  have hb := outs_len (h := h) (b := b)
  unfold s_l3Cards
  have := fx_app (B := s_l3Cards_L1 n) 81 (fun i a => (h, b, (i : Int), a)) (fun k => if outOK h b k = true then [(k : Int)] else []) some 1000000 (fun self i a hi hM => by
    simp only [s_l3Cards_L1, lt_eq]
    rw [br_pos (decide_eq_true (show (i : Int) < 81 by omega)), s_l2At_eq n (by omega), ob_some, s_l2Has_eq hn (by omega), ob_some, s_l2Through_eq hn H, ob_some, w64_succ (by omega)]
    simp only [br_some, ob_some]
    have e : (if (!h.contains (cardAt (i : Int))) = true then decide (0 < (thr h (cardAt (i : Int)) : Int)) == b else false) = outOK h b i := by
      unfold outOK
      have : decide (0 < (thr h (cardAt (i : Int)) : Int)) = decide (0 < thr h (cardAt (i : Int))) := by congr 1; apply propext; omega
      rw [this]; cases h.contains (cardAt (i : Int)) <;> simp
    rw [e]
    cases ho : outOK h b i with
    | true =>
      rw [ho] at hM
      simp only [if_true, List.length_singleton] at hM
      rw [br_true, ckb_pos (apok_ok (by omega) (by omega))]; simp
    | false => simp) (fun self a => by
    simp only [s_l3Cards_L1]
    rw [br_neg (decide_eq_false (show ¬ ((81 : Nat) : Int) < 81 by omega))]) n 0 [] (Nat.zero_le _) (big_gt hn (by omega)) (by unfold outs at hb; simp only [List.length_nil]; omega)
  rw [List.nil_append] at this
  exact this
end Go.Pl

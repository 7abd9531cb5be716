/- Plain laws: L2. -/
import Derived.Test.YtkhfihbaopbblaaDoorPL
import Derived.Test.YtkhfihbaopbblaaDoorLLP0
set_option linter.unusedVariables false
set_option linter.unusedSimpArgs false
namespace Go.Pl
open Go Go.Tv Go.RowKit
abbrev Card := V4 Int
def in3 (x : Int) : Bool := decide (0 ≤ x ∧ x ≤ 2)
def isC (c : Card) : Bool := in3 c.x0 && in3 c.x1 && in3 c.x2 && in3 c.x3
def num (c : Card) : Int := 27 * c.x0 + 9 * c.x1 + 3 * c.x2 + c.x3
theorem in3_iff {x : Int} : in3 x = true ↔ 0 ≤ x ∧ x ≤ 2 := by unfold in3; exact decide_eq_true_iff
theorem isC_iff {c : Card} : isC c = true ↔ (0 ≤ c.x0 ∧ c.x0 ≤ 2) ∧ (0 ≤ c.x1 ∧ c.x1 ≤ 2) ∧ (0 ≤ c.x2 ∧ c.x2 ≤ 2) ∧ 0 ≤ c.x3 ∧ c.x3 ≤ 2 := by
  unfold isC; simp only [Bool.and_eq_true, in3_iff, and_assoc]
theorem s_l1In_eq (n : Nat) (x a b : Int) : s_l1In n x a b = some (decide (a ≤ x ∧ x ≤ b)) := by
  unfold s_l1In
  by_cases h : a ≤ x <;> simp [h]
theorem i_within_eq (n : Nat) (x a b : Int) : i_within n x a b = some (decide (a ≤ x ∧ x ≤ b)) := by
  unfold i_within
  by_cases h : a ≤ x <;> simp [h]
theorem s_l1In_3 (n : Nat) (x : Int) : s_l1In n x 0 2 = some (in3 x) := s_l1In_eq n x 0 2
theorem i_within_3 (n : Nat) (x : Int) : i_within n x 0 2 = some (in3 x) := i_within_eq n x 0 2
theorem s_l2Card_eq {n : Nat} (hn : BIG ≤ n) (c : Card) : s_l2Card n c = some (isC c) := by
  obtain ⟨m, rfl⟩ : ∃ m, n = m + 5 := ⟨n - 5, by unfold BIG at hn; omega⟩
  unfold s_l2Card isC
  simp only [fx_succ, s_l2Card_L1, s_l1In_3, ob_some]
  simp only [inb, V4.get]
  cases h0 : in3 c.x0 <;> cases h1 : in3 c.x1 <;> cases h2 : in3 c.x2 <;> cases h3 : in3 c.x3 <;> simp [h0, h1, h2, h3]
theorem i_IsCard_eq {n : Nat} (hn : BIG ≤ n) (c : Card) : i_IsCard n c = some (isC c) := by
  obtain ⟨m, rfl⟩ : ∃ m, n = m + 5 := ⟨n - 5, by unfold BIG at hn; omega⟩
  unfold i_IsCard i_allWithin slices_ContainsFunc_Sint_int_'l_i_allWithin_1pp slices_IndexFunc_Sint_int_'l_i_allWithin_1pp isC
  simp only [fx_succ, slices_IndexFunc_Sint_int_'l_i_allWithin_1pp_L1, i_allWithin_1'pp, i_within_3, ob_some]
  simp only [inb, V4.els, gl]
  cases h0 : in3 c.x0 <;> cases h1 : in3 c.x1 <;> cases h2 : in3 c.x2 <;> cases h3 : in3 c.x3 <;> simp [h0, h1, h2, h3, i_within_3]
theorem s_l2Number_eq {n : Nat} {c : Card} (h : isC c = true) : s_l2Number n c = some (num c) := by
  rw [isC_iff] at h
  unfold s_l2Number num
  simp only [lt_eq]
  rw [w64_id (x := 27 * c.x0) (by omega), w64_id (x := 9 * c.x1) (by omega), w64_id (x := 3 * c.x2) (by omega), w64_id (x := 27 * c.x0 + 9 * c.x1) (by omega), w64_id (x := 27 * c.x0 + 9 * c.x1 + 3 * c.x2) (by omega), w64_id (by omega)]
theorem i_number_eq {n : Nat} (hn : BIG ≤ n) {c : Card} (h : isC c = true) : i_number n c = some (num c) := by
  obtain ⟨m, rfl⟩ : ∃ m, n = m + 5 := ⟨n - 5, by unfold BIG at hn; omega⟩
  rw [isC_iff] at h
  unfold i_number num
  simp only [fx_succ, i_number_L1, lt_eq]
  simp only [inb, V4.get]
  simp
  rw [w64_id (x := c.x0) (by omega), w64_id (x := 3 * c.x0) (by omega), w64_id (x := 3 * c.x0 + c.x1) (by omega), w64_id (x := 3 * (3 * c.x0 + c.x1)) (by omega), w64_id (x := 3 * (3 * c.x0 + c.x1) + c.x2) (by omega), w64_id (x := 3 * (3 * (3 * c.x0 + c.x1) + c.x2)) (by omega), w64_id (by omega)]
  omega
def handP : Option Card → List Card → Bool
  | _, [] => true
  | p, c :: l => isC c && (match p with | none => true | some q => decide (num q < num c)) && handP (some c) l
def hand (h : List Card) : Bool := handP none h && decide (h.length ≤ 27)
def prevO (h : List Card) : Nat → Option Card
  | 0 => none
  | i + 1 => h[i]?
theorem handP_cons {p : Option Card} {c : Card} {l : List Card} : handP p (c :: l) = (isC c && (match p with | none => true | some q => decide (num q < num c)) && handP (some c) l) := rfl
theorem s_l2Less_eq {n : Nat} {a b : Card} (ha : isC a = true) (hb : isC b = true) : s_l2Less n a b = some (decide (num a < num b)) := by
  unfold s_l2Less
  rw [s_l2Number_eq ha, s_l2Number_eq hb]; rfl
theorem s_l2Hand_eq {n : Nat} (hn : BIG ≤ n) {h : List Card} (hl : h.length ≤ 9223372036854775807) : s_l2Hand n h = some (hand h) := by
  unfold s_l2Hand hand
  refine fx_cnt (B := s_l2Hand_L1 n) h.length (fun i => (h, (i : Int))) (fun i => ∀ q, prevO h i = some q → isC q = true) (fun i => some (handP (prevO h i) (h.drop i) && decide (h.length ≤ 27))) ?_ n 0 (Nat.zero_le _) (fun q hq => by cases hq) (big_gt hn (by omega))
  intro self i hi hI hself
  simp only [s_l2Hand_L1]
  by_cases h1 : i < h.length
  · rw [drop_cons h1, handP_cons]
    by_cases h2 : i ≤ 27
    · have e1 : decide ((i : Int) < (h.length : Int)) = true := decide_eq_true (by omega)
      have e2 : decide ((i : Int) ≤ 27) = true := decide_eq_true (by omega)
      simp only [e1, e2, br_true, ob_some, inb_ok h1, ckb_true, toNat_cast, gl_eq h1, s_l2Card_eq hn]
      cases hc : isC h[i] with
      | false => simp
      | true =>
        have hnext : self (h, w64 ((i : Int) + 1)) = some (handP (some h[i]) (h.drop (i + 1)) && decide (h.length ≤ 27)) := by
          rw [w64_succ (by omega), hself h1 fun q hq => by
            simp only [prevO] at hq
            rw [List.getElem?_eq_getElem h1] at hq; injection hq with hq; subst hq; exact hc]
          simp only [prevO, List.getElem?_eq_getElem h1]
        cases i with
        | zero => simpa [prevO] using hnext
        | succ j =>
          have hj : j < h.length := by omega
          have hcj := hI h[j] (by simp only [prevO]; exact List.getElem?_eq_getElem hj)
          have e3 : decide ((0 : Int) < ((j + 1 : Nat) : Int)) = true := decide_eq_true (by omega)
          have e4 : w64 (((j + 1 : Nat) : Int) - 1) = (j : Int) := by rw [w64_id (by omega)]; omega
          simp only [e3, e4, br_true, br_false, Bool.not_true, lt_eq, inb_ok hj, inb_ok h1, ckb_true, toNat_cast, gl_eq hj, gl_eq h1, s_l2Less_eq hcj hc, ob_some, prevO, List.getElem?_eq_getElem hj, Bool.true_and]
          cases decide (num h[j] < num h[j + 1]) with
          | false => simp
          | true => simpa using hnext
    · have e2 : decide ((i : Int) ≤ 27) = false := decide_eq_false (by omega)
      have e3 : decide ((h.length : Int) ≤ 27) = false := decide_eq_false (by omega)
      have e4 : decide (h.length ≤ 27) = false := decide_eq_false (by omega)
      have e1 : decide ((i : Int) < (h.length : Int)) = true := decide_eq_true (by omega)
      simp only [e1, e2, e3, e4, br_true, br_false, ob_some, Bool.and_false]
  · have e1 : decide ((i : Int) < (h.length : Int)) = false := decide_eq_false (by omega)
    have e2 : decide ((h.length : Int) ≤ 27) = decide (h.length ≤ 27) := by congr 1; apply propext; omega
    rw [List.drop_eq_nil_of_le (by omega)]
    simp only [e1, e2, br_false, ob_some, handP, Bool.true_and]
theorem i_IsHand_eq {n : Nat} (hn : BIG ≤ n) {h : List Card} (hl : h.length ≤ 9223372036854775807) : i_IsHand n h = some (hand h) := by
  unfold i_IsHand hand
  refine fx_cnt (B := i_IsHand_L1 n) h.length (fun i => (h, h, (h.length : Int), (i : Int))) (fun i => ∀ q, prevO h i = some q → isC q = true) (fun i => some (handP (prevO h i) (h.drop i) && decide (h.length ≤ 27))) ?_ n 0 (Nat.zero_le _) (fun q hq => by cases hq) (big_gt hn (by omega))
  intro self i hi hI hself
  simp only [i_IsHand_L1]
  by_cases h1 : i < h.length
  · rw [drop_cons h1, handP_cons]
    have e1 : decide ((i : Int) < (h.length : Int)) = true := decide_eq_true (by omega)
    simp only [e1, br_true, ob_some, inb_ok h1, ckb_true, toNat_cast, gl_eq h1, i_IsCard_eq hn]
    cases hc : isC h[i] with
    | false => simp
    | true =>
      have hnext : self (h, h, (h.length : Int), w64 ((i : Int) + 1)) = some (handP (some h[i]) (h.drop (i + 1)) && decide (h.length ≤ 27)) := by
        rw [w64_succ (by omega), hself h1 fun q hq => by
          simp only [prevO] at hq
          rw [List.getElem?_eq_getElem h1] at hq; injection hq with hq; subst hq; exact hc]
        simp only [prevO, List.getElem?_eq_getElem h1]
      cases i with
      | zero => simpa [prevO] using hnext
      | succ j =>
        have hj : j < h.length := by omega
        have hcj := hI h[j] (by simp only [prevO]; exact List.getElem?_eq_getElem hj)
        have e3 : decide ((0 : Int) < ((j + 1 : Nat) : Int)) = true := decide_eq_true (by omega)
        have e4 : w64 (((j + 1 : Nat) : Int) - 1) = (j : Int) := by rw [w64_id (by omega)]; omega
        simp only [e3, e4, br_true, br_false, Bool.not_true, lt_eq, inb_ok hj, ckb_true, toNat_cast, gl_eq hj, gl_eq h1, i_number_eq hn hcj, i_number_eq hn hc, ob_some, prevO, List.getElem?_eq_getElem hj, Bool.true_and]
        by_cases hlt : num h[j] < num h[j + 1]
        · have e5 : decide (num h[j + 1] ≤ num h[j]) = false := decide_eq_false (by omega)
          simp only [e5, decide_eq_true hlt, br_false, Bool.true_and]; exact hnext
        · have e5 : decide (num h[j + 1] ≤ num h[j]) = true := decide_eq_true (by omega)
          simp [e5, hlt]
  · have e1 : decide ((i : Int) < (h.length : Int)) = false := decide_eq_false (by omega)
    have e2 : decide ((h.length : Int) ≤ 27) = decide (h.length ≤ 27) := by congr 1; apply propext; omega
    rw [List.drop_eq_nil_of_le (by omega)]
    simp only [e1, e2, br_false, ob_some, handP, Bool.true_and]
end Go.Pl

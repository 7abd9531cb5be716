/- Plain laws: LMs. -/
import Derived.Test.YtbkbkaonjhlplaaLLX2
import Derived.Test.YtbkbkaonjhlplaaLL81
import Derived.KernelRfl
set_option linter.unusedVariables false
set_option linter.unusedSimpArgs false
namespace Go.Pl
open Go Go.Tv Go.RowKit
set_option linter.unusedVariables false

/-! messages -/
theorem i_areCards_eq {n : Nat} (hn : BIG ≤ n) {l : List Card} (hl : l.length ≤ 9223372036854775807) : i_areCards n l = some (l.all isC) := by
  unfold i_areCards slices_ContainsFunc_SA4_A4_'l_i_areCards_1 slices_IndexFunc_SA4_A4_'l_i_areCards_1
  have := fx_find (B := slices_IndexFunc_SA4_A4_'l_i_areCards_1_L1 n) l (fun i => (l, (l.length : Int), (i : Int))) (fun c => !isC c) (fun i => some (i : Int)) (some (-1)) (fun self i hi => ?_) (fun self => ?_) n (big_gt hn (by omega))
  · have e : ((0 : Nat) : Int) = 0 := rfl
    simp only [e] at this
    rw [this]
    have ha := findIdx?_any l fun c => !isC c
    cases hf : l.findIdx? (fun c => !isC c) with
    | none =>
      rw [hf] at ha
      simp only [ob_some]
      have : l.all isC = true := by
        rw [List.all_eq_not_any_not, ← ha]; rfl
      rw [this]; rfl
    | some i =>
      rw [hf] at ha
      simp only [ob_some]
      have : l.all isC = false := by
        rw [List.all_eq_not_any_not, ← ha]; rfl
      rw [this]; simp
  · have e1 : decide ((i : Int) < (l.length : Int)) = true := decide_eq_true (by omega)
    simp only [slices_IndexFunc_SA4_A4_'l_i_areCards_1_L1, e1, br_true, i_areCards_1]
    rw [ckb_pos (inb_ok hi), toNat_cast, gl_eq hi, i_IsCard_eq hn, ob_some, ob_some, lt_eq, w64_succ (by omega)]
    cases isC l[i] <;> simp
  · have e1 : decide ((l.length : Int) < (l.length : Int)) = false := decide_eq_false (by omega)
    simp only [slices_IndexFunc_SA4_A4_'l_i_areCards_1_L1, e1, br_false]
theorem s_l11Cards_eq {n : Nat} (hn : BIG ≤ n) {l : List Card} (hl : l.length ≤ 9223372036854775807) : s_l11Cards n l = some (l.all isC && decide (l.length ≤ 27)) := by
  unfold s_l11Cards
  have := fx_cnt (B := s_l11Cards_L1 n) l.length (fun i => (l, (i : Int))) (fun _ => True) (fun i => some ((l.drop i).all isC && decide (l.length ≤ 27))) (fun self i hi _ ih => by
    simp only [s_l11Cards_L1, br_some, ob_some]
    by_cases h : i < l.length
    · rw [decide_eq_true (show (i : Int) < (l.length : Int) by omega)]
      by_cases h27 : i ≤ 27
      · rw [decide_eq_true (show (i : Int) ≤ 27 by omega)]
        simp only [if_true, br_true]
        rw [ckb_pos (inb_ok h), toNat_cast, gl_eq h, s_l2Card_eq hn, ob_some, lt_eq, w64_succ (by omega), ih h trivial, drop_cons h, List.all_cons]
        cases isC l[i] <;> simp
      · rw [decide_eq_false (show ¬ (i : Int) ≤ 27 by omega)]
        simp only [if_true, br_false]
        rw [decide_eq_false (show ¬ (l.length : Int) ≤ 27 by omega), decide_eq_false (show ¬ l.length ≤ 27 by omega), Bool.and_false]
    · rw [decide_eq_false (show ¬ (i : Int) < (l.length : Int) by omega)]
      simp only [Bool.false_eq_true, if_false, br_false]
      rw [List.drop_eq_nil_of_le (by omega)]
      have e2 : decide ((l.length : Int) ≤ 27) = decide (l.length ≤ 27) := by congr 1; apply propext; omega
      simp [e2]) n 0 (Nat.zero_le _) trivial (big_gt hn (by omega))
  simpa using this
noncomputable def nearOK (n : Nat) (c : Card) : Bool := match s_l11Nearest n c, i_nearest n c with
  | some a, some b => decide (a = b) && isC a.1 && decide (-1 ≤ a.2 ∧ a.2 ≤ 3)
  | _, _ => false
theorem near_run (m : Nat) : (cards81.all fun c => nearOK (m + 64) c) = true := by kernel_rfl
noncomputable def nearV (n : Nat) (c : Card) : Card × Int := (s_l11Nearest n c).getD (⟨0, 0, 0, 0⟩, 0)
theorem near_ok' {n : Nat} (hn : BIG ≤ n) {c : Card} (hc : isC c = true) : s_l11Nearest n c = some (nearV n c) ∧ i_nearest n c = some (nearV n c) ∧ isC (nearV n c).1 = true ∧ -1 ≤ (nearV n c).2 ∧ (nearV n c).2 ≤ 3 := by
  obtain ⟨m, rfl⟩ : ∃ m, n = m + 64 := ⟨n - 64, by unfold BIG at hn; omega⟩
  have := List.all_eq_true.1 (near_run m) c (mem_cards81 hc)
  unfold nearOK at this
  unfold nearV
  cases hs : s_l11Nearest (m + 64) c with
  | none => rw [hs] at this; cases this
  | some a =>
    rw [hs] at this
    cases hi : i_nearest (m + 64) c with
    | none => rw [hi] at this; cases this
    | some b =>
      rw [hi] at this
      simp only [Bool.and_eq_true, decide_eq_true_eq] at this
      obtain ⟨⟨h1, h2⟩, h3⟩ := this
      subst h1
      exact ⟨rfl, rfl, h2, h3.1, h3.2⟩
def wordN (c : Card) : Int := 3 * c.x0 + c.x3
noncomputable def msgOp (n : Nat) (a : Nat × List Int) (c : Card) : Nat × List Int := (if 0 ≤ (nearV n c).2 then a.1 + 1 else a.1, a.2 ++ [wordN (nearV n c).1])
noncomputable def msgOf (n : Nat) (l : List Card) : Nat × List Int := l.foldl (msgOp n) (0, [])
theorem wordN_w {c : Card} (h : isC c = true) : w64 (w64 (3 * c.x0) + c.x3) = wordN c := by
  rw [isC_iff] at h
  unfold wordN
  rw [w64_id (x := 3 * c.x0) (by omega), w64_id (by omega)]
theorem msg_go {n : Nat} (l : List Card) : ∀ a : Nat × List Int, (l.foldl (msgOp n) a).2 = a.2 ++ l.map (fun c => wordN (nearV n c).1) ∧ (l.foldl (msgOp n) a).1 = a.1 + (l.countP fun c => decide (0 ≤ (nearV n c).2)) := by
  induction l with
  | nil => intro a; simp
  | cons x l ih =>
    intro a
    rw [List.foldl_cons]
    obtain ⟨h1, h2⟩ := ih (msgOp n a x)
    rw [h1, h2]
    unfold msgOp
    constructor
    · simp
    · rw [List.countP_cons]
      by_cases h : 0 ≤ (nearV n x).2 <;> simp [h]; omega
theorem s_ReadMessage_eq {n : Nat} (hn : BIG ≤ n) {l : List Card} (hl : l.length ≤ 1048576) : s_ReadMessage n l = some (if l.all isC && decide (l.length ≤ 27) then (((msgOf n l).1 : Int), true, (msgOf n l).2) else (0, false, [])) := by
  unfold s_ReadMessage
  rw [s_l11Cards_eq hn (by omega), ob_some]
  cases hc : (l.all isC && decide (l.length ≤ 27)) with
  | false => rfl
  | true =>
    rw [Bool.and_eq_true, decide_eq_true_eq] at hc
    rw [Bool.not_true, br_false, if_pos rfl]
    unfold msgOf
    have := fx_foldl (B := s_ReadMessage_L1 n) l (fun i (a : Nat × List Int) => (l, (a.1 : Int), (i : Int), a.2)) (msgOp n) (fun a => some ((a.1 : Int), true, a.2)) (fun i a => a.1 ≤ i ∧ a.2.length ≤ i) (fun i a h hI => by
      unfold msgOp; constructor
      · dsimp only; split <;> omega
      · simp; omega) (fun self i a hi ⟨h1, h2⟩ => by
      have e1 : decide ((i : Int) < (l.length : Int)) = true := decide_eq_true (by omega)
      obtain ⟨g1, _, g3, _⟩ := near_ok' hn (List.all_eq_true.1 hc.1 _ (List.getElem_mem hi))
      simp only [s_ReadMessage_L1, e1, br_true, lt_eq]
      rw [ckb_pos (inb_ok hi), toNat_cast, gl_eq hi, g1, ob_some, wordN_w g3, ckb_pos (apok_ok (by omega) (by omega)), w64_succ (k := i) (by omega), w64_succ (k := a.1) (by omega), br_dec]
      unfold msgOp
      split <;> rfl) (fun self a _ => by
      have e1 : decide ((l.length : Int) < (l.length : Int)) = false := decide_eq_false (by omega)
      simp only [s_ReadMessage_L1, e1, br_false]) n (big_gt hn (by omega)) (0, []) ⟨Nat.le_refl _, Nat.le_refl _⟩
    exact this
theorem i_ReadMessage_eq {n : Nat} (hn : BIG ≤ n) {l : List Card} (hl : l.length ≤ 1048576) : i_ReadMessage n l = some (if l.all isC && decide (l.length ≤ 27) then (((msgOf n l).1 : Int), true, (msgOf n l).2) else (0, false, [])) := by
  unfold i_ReadMessage
  rw [i_areCards_eq hn (by omega)]
  simp only [ob_some, br_some]
  have ec : (if decide (27 < (l.length : Int)) = true then true else !l.all isC) = !(l.all isC && decide (l.length ≤ 27)) := by
    by_cases h : l.length ≤ 27
    · rw [decide_eq_false (show ¬ 27 < (l.length : Int) by omega), decide_eq_true h]; simp
    · rw [decide_eq_true (show 27 < (l.length : Int) by omega), decide_eq_false h]; simp
  rw [ec]
  cases hc : (l.all isC && decide (l.length ≤ 27)) with
  | false => rfl
  | true =>
    rw [Bool.and_eq_true, decide_eq_true_eq] at hc
    rw [Bool.not_true, br_false, if_pos rfl]
    unfold msgOf
    have := fx_foldl (B := i_ReadMessage_L2 n) l (fun i (a : Nat × List Int) => ((a.1 : Int), l, (l.length : Int), (i : Int), a.2)) (msgOp n) (fun a => some ((a.1 : Int), true, a.2)) (fun i a => a.1 ≤ i ∧ a.2.length ≤ i) (fun i a h hI => by
      unfold msgOp; constructor
      · dsimp only; split <;> omega
      · simp; omega) (fun self i a hi ⟨h1, h2⟩ => by
      have e1 : decide ((i : Int) < (l.length : Int)) = true := decide_eq_true (by omega)
      obtain ⟨_, g1, g3, _⟩ := near_ok' hn (List.all_eq_true.1 hc.1 _ (List.getElem_mem hi))
      simp only [i_ReadMessage_L2, i_ReadMessage_J1, e1, br_true, lt_eq]
      rw [ckb_pos (inb_ok hi), toNat_cast, gl_eq hi, g1, ob_some, wordN_w g3, apok_ok (b := 8) (n := a.2.length + 1) (by omega) (by omega), w64_succ (k := i) (by omega), w64_succ (k := a.1) (by omega), br_dec]
      unfold msgOp
      split <;> rfl) (fun self a _ => by
      have e1 : decide ((l.length : Int) < (l.length : Int)) = false := decide_eq_false (by omega)
      simp only [i_ReadMessage_L2, e1, br_false]) n (big_gt hn (by omega)) (0, []) ⟨Nat.le_refl _, Nat.le_refl _⟩
    exact this
end Go.Pl

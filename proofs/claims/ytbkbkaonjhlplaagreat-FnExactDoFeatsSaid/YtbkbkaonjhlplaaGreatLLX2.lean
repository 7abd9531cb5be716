/- Plain laws: LX2. -/
import Derived.Test.YtbkbkaonjhlplaaGreatLLX1
set_option linter.unusedVariables false
set_option linter.unusedSimpArgs false
namespace Go.Pl
open Go Go.Tv Go.RowKit
set_option linter.unusedVariables false

/-! the laws' words on lists of numbers -/
theorem v_szIntS_eq {n : Nat} {a : List Int} {left : Int} (hl : a.length ≤ 9223372036854775807) (h : 0 ≤ left ∧ left ≤ 9223372036854775807) : v_szIntS n a left = some (if left - a.length < 0 then -1 else left - a.length) := by
  unfold v_szIntS
  rw [lt_eq, w64_id (by omega), br_dec]
  split <;> rfl
theorem v_toIntS_go {n : Nat} : ∀ (l done : List Int) (w : List Int), w.length = l.length → done.length + l.length ≤ 1099511627776 → ∀ j, l.length < j →
    fx (v_toIntS_L1 n) j (done ++ l, (done.length : Int), done ++ w) = some (done ++ l)
  | [], done, w, hw, _, j + 1, _ => by
    rw [fx_succ]
    have : w = [] := List.length_eq_zero_iff.1 hw
    subst this
    simp [v_toIntS_L1]
  | c :: l, done, [], hw, _, j + 1, _ => by simp at hw
  | c :: l, done, x :: w, hw, h2, j + 1, hj => by
    rw [fx_succ]
    simp only [List.length_cons] at hw h2 hj
    have e1 : decide ((done.length : Int) < ((done ++ c :: l).length : Int)) = true := decide_eq_true (by simp; omega)
    have ih := v_toIntS_go (n := n) l (done ++ [c]) w (by omega) (by simp; omega) j (by omega)
    simp only [v_toIntS_L1, e1, br_true, lt_eq]
    rw [ckb_pos (inb_ok (by simp)), ckb_pos (inb_ok (by simp)), toNat_cast, gl_eq (by simp), w64_succ (by omega), set_mid]
    simp only [List.append_assoc, List.singleton_append, List.length_append, List.length_singleton] at ih
    simp only [List.getElem_append_right (Nat.le_refl _), Nat.sub_self, List.getElem_cons_zero]
    exact ih
theorem v_toIntS_eq {n : Nat} (hn : BIG ≤ n) {a : List Int} (hl : a.length ≤ 1099511627776) : v_toIntS n a = some a := by
  unfold v_toIntS
  rw [ckb_pos (mkok_ok (by omega) (by omega) (by omega) (by omega))]
  have := v_toIntS_go (n := n) a [] (List.replicate a.length 0) (by simp) (by simp; omega) n (big_gt hn (by omega))
  simpa using this
theorem v_eqIntS_eq {n : Nat} (hn : BIG ≤ n) {a b : List Int} (hl : a.length ≤ 9223372036854775806) : v_eqIntS n a b = some (decide (a = b)) := by
  unfold v_eqIntS
  by_cases hlen : a.length = b.length
  · have e0 : decide ((a.length : Int) = (b.length : Int)) = true := decide_eq_true (by omega)
    simp only [e0, Bool.not_true, br_false]
    have := fx_cnt (B := v_eqIntS_L1 n) a.length (fun i => (a, b, (i : Int))) (fun _ => True) (fun i => some (decide (a.drop i = b.drop i))) (fun self i hi _ ih => by
      simp only [v_eqIntS_L1]
      by_cases h : i < a.length
      · have e1 : decide ((i : Int) < (a.length : Int)) = true := decide_eq_true (by omega)
        simp only [e1, br_true, inb_ok h, inb_ok (show i < b.length by omega), ckb_true, toNat_cast, gl_eq h, gl_eq (show i < b.length by omega), lt_eq]
        rw [List.drop_eq_getElem_cons h, List.drop_eq_getElem_cons (show i < b.length by omega)]
        by_cases hc : a[i] = b[i]
        · simp only [hc, decide_true, Bool.not_true, br_false, List.cons.injEq, true_and]
          rw [w64_succ (by omega)]; exact ih h trivial
        · have hne : ¬ (a[i] :: a.drop (i + 1) = b[i] :: b.drop (i + 1)) := fun e => hc (List.cons.inj e).1
          rw [decide_eq_false hne, decide_eq_false hc]; rfl
      · have e1 : decide ((i : Int) < (a.length : Int)) = false := decide_eq_false (by omega)
        simp only [e1, br_false]
        rw [List.drop_eq_nil_of_le (by omega), List.drop_eq_nil_of_le (by omega)]; simp) n 0 (Nat.zero_le _) trivial (big_gt hn (by omega))
    simpa using this
  · have e0 : decide ((a.length : Int) = (b.length : Int)) = false := decide_eq_false (by omega)
    simp only [e0, Bool.not_false, br_true]
    have : a ≠ b := fun h => hlen (by rw [h])
    simp [this]
def mark1 : List Int → Int → List Int
  | [], _ => []
  | _ :: l, k => k :: mark1 l (k + 1)
theorem mark1_len : ∀ (l : List Int) (k : Int), (mark1 l k).length = l.length
  | [], _ => rfl
  | _ :: l, k => by simp [mark1, mark1_len l]
theorem v_markIntS'o_go {n : Nat} : ∀ (l done : List Int) (k : Int) , 0 ≤ k → k + l.length ≤ 4611686018427387904 → done.length + l.length ≤ 4611686018427387904 → ∀ j, l.length < j →
    fx (v_markIntS'o_L1 n) j (k, (done.length : Int), done ++ l) = some (k + l.length, done ++ mark1 l k)
  | [], done, k, _, _, _, j + 1, _ => by
    rw [fx_succ]
    simp [v_markIntS'o_L1, mark1]
  | c :: l, done, k, h0, h1, h2, j + 1, hj => by
    rw [fx_succ]
    simp only [List.length_cons] at h1 h2 hj
    have e1 : decide ((done.length : Int) < ((done ++ c :: l).length : Int)) = true := decide_eq_true (by simp; omega)
    have ih := v_markIntS'o_go (n := n) l (done ++ [k]) (k + 1) (by omega) (by omega) (by simp; omega) j (by omega)
    simp only [v_markIntS'o_L1, e1, br_true, lt_eq]
    rw [ckb_pos (inb_ok (by simp)), toNat_cast, w64_id (x := k + 1) (by omega), w64_succ (by omega), set_mid]
    simp only [List.append_assoc, List.singleton_append, List.length_append, List.length_singleton] at ih
    rw [ih, mark1]
    congr 2; simp only [List.length_cons]; omega
theorem v_markIntS'o_eq {n : Nat} (hn : BIG ≤ n) {l : List Int} {k : Int} (h0 : 0 ≤ k) (h1 : k + l.length ≤ 4611686018427387904) : v_markIntS'o n k l = some (k + l.length, mark1 l k) := by
  have := v_markIntS'o_go (n := n) l [] k h0 h1 (by simp; omega) n (big_gt hn (by omega))
  simpa [v_markIntS'o] using this
theorem v_heldIntS_go {n : Nat} : ∀ (l done : List Int) (k : Int), 0 ≤ k → k + l.length ≤ 4611686018427387904 → done.length + l.length ≤ 4611686018427387904 → ∀ j, l.length < j →
    fx (v_heldIntS_L1 n) j (done ++ mark1 l k, k, (done.length : Int)) = some (k + l.length)
  | [], done, k, _, _, _, j + 1, _ => by
    rw [fx_succ]
    simp [v_heldIntS_L1, mark1]
  | c :: l, done, k, h0, h1, h2, j + 1, hj => by
    rw [fx_succ]
    simp only [List.length_cons] at h1 h2 hj
    simp only [mark1]
    have e1 : decide ((done.length : Int) < ((done ++ k :: mark1 l (k + 1)).length : Int)) = true := decide_eq_true (by simp; omega)
    have ih := v_heldIntS_go (n := n) l (done ++ [k]) (k + 1) (by omega) (by omega) (by simp; omega) j (by omega)
    simp only [v_heldIntS_L1, e1, br_true, lt_eq]
    rw [ckb_pos (inb_ok (by simp)), toNat_cast, gl_eq (by simp), w64_id (x := k + 1) (by omega), w64_succ (by omega)]
    simp only [List.append_assoc, List.singleton_append, List.length_append, List.length_singleton] at ih
    simp only [List.getElem_append_right (Nat.le_refl _), Nat.sub_self, List.getElem_cons_zero, decide_true, Bool.not_true, br_false]
    rw [ih]
    congr 1; simp only [List.length_cons]; omega
theorem v_heldIntS_eq {n : Nat} (hn : BIG ≤ n) {l : List Int} {k : Int} (h0 : 0 ≤ k) (h1 : k + l.length ≤ 4611686018427387904) : v_heldIntS n (mark1 l k) k = some (k + l.length) := by
  have := v_heldIntS_go (n := n) l [] k h0 h1 (by simp; omega) n (big_gt hn (by omega))
  simpa [v_heldIntS] using this
end Go.Pl

/- Plain laws: LX4. -/
import Derived.Test.YtbkbkaonjhlplaaGreatLLX2
import Derived.Test.YtbkbkaonjhlplaaGreatPL
set_option linter.unusedVariables false
set_option linter.unusedSimpArgs false
namespace Go.Pl
open Go Go.Tv Go.RowKit
set_option linter.unusedVariables false

/-! words of the laws on feats -/
abbrev Ft' := Int × (Int × (Int × Int))
theorem v_szFeatS_eq {n : Nat} {a : List Ft'} {left : Int} (hl : a.length ≤ 9223372036854775807) (h : 0 ≤ left ∧ left ≤ 9223372036854775807) : v_szFeatS n a left = some (if left - a.length < 0 then -1 else left - a.length) := by
  unfold v_szFeatS
  rw [lt_eq, w64_id (by omega), br_dec]
  split
  · rfl
  · rfl
theorem v_toFeatS_go {n : Nat} : ∀ (l done : List Ft') (w : List Ft'), w.length = l.length → done.length + l.length ≤ 1099511627776 → ∀ j, l.length < j → fx (v_toFeatS_L1 n) j (done ++ l, (done.length : Int), done ++ w) = some (done ++ l)
  | [], done, w, hw, hd, j + 1, hj => by
    rw [fx_succ]
    simp only [v_toFeatS_L1]
    rw [br_neg (decide_eq_false (by rw [List.append_nil]; omega))]
    have : w = [] := List.length_eq_zero_iff.1 hw
    rw [this]
  | c :: l, done, [], hw, hd, j + 1, hj => by cases hw
  | c :: l, done, x :: w, hw, hd, j + 1, hj => by
    simp only [List.length_cons] at hw hd hj
    rw [fx_succ]
    simp only [v_toFeatS_L1, lt_eq]
    have e1 : (done ++ c :: l)[done.length]'(by simp) = c := by simp
    rw [br_pos (decide_eq_true (by rw [List.length_append, List.length_cons]; omega)), ckb_pos (inb_ok (by rw [List.length_append, List.length_cons]; omega)), toNat_cast, gl_eq (by rw [List.length_append, List.length_cons]; omega), e1]
    have e2 : v_toFeat n c = some c := rfl
    rw [e2, ob_some, ckb_pos (inb_ok (by rw [List.length_append, List.length_cons]; omega)), w64_succ (by omega)]
    have e3 : (done ++ x :: w).set done.length c = (done ++ [c]) ++ w := by simp
    have e4 : done ++ c :: l = (done ++ [c]) ++ l := by simp
    rw [e3, e4]
    have := v_toFeatS_go (n := n) l (done ++ [c]) w (by omega) (by simp; omega) j (by omega)
    simpa using this
theorem v_toFeatS_eq {n : Nat} (hn : BIG ≤ n) {a : List Ft'} (hl : a.length ≤ 1048576) : v_toFeatS n a = some a := by
  unfold v_toFeatS
  rw [ckb_pos (by unfold mkok; simp; omega)]
  have := v_toFeatS_go (n := n) a [] (List.replicate a.length (0, (0, (0, 0)))) (by simp) (by simp; omega) n (big_gt hn (by omega))
  simpa using this
theorem v_eqFeat_eq (n : Nat) (a b : Ft') : v_eqFeat n a b = some (decide (a = b)) := by
  obtain ⟨a0, a1, a2, a3⟩ := a
  obtain ⟨b0, b1, b2, b3⟩ := b
  unfold v_eqFeat
  by_cases h0 : a0 = b0 <;> by_cases h1 : a1 = b1 <;> by_cases h2 : a2 = b2 <;> by_cases h3 : a3 = b3 <;> simp [h0, h1, h2, h3]
theorem v_eqFeatS_self {n : Nat} (hn : BIG ≤ n) {a : List Ft'} (hl : a.length ≤ 1048576) : v_eqFeatS n a a = some true := by
  unfold v_eqFeatS
  rw [show decide ((a.length : Int) = (a.length : Int)) = true from decide_eq_true rfl, Bool.not_true, br_false]
  have := fx_cnt (B := v_eqFeatS_L1 n) a.length (fun i => (a, a, (i : Int))) (fun _ => True) (fun _ => some true) (fun self i hi _ ih => by
    simp only [v_eqFeatS_L1, lt_eq]
    by_cases h : i < a.length
    · rw [br_pos (decide_eq_true (show (i : Int) < (a.length : Int) by omega)), ckb_pos (inb_ok h), ckb_pos (inb_ok h), v_eqFeat_eq, ob_some, decide_eq_true rfl, w64_succ (by omega)]
      exact ih h trivial
    · rw [br_neg (decide_eq_false (by omega))]) n 0 (Nat.zero_le _) trivial (big_gt hn (by omega))
  exact this
def mkF : List Ft' → Int → List Ft'
  | [], _ => []
  | _ :: l, k => (k, (k + 1, (k + 2, k + 3))) :: mkF l (k + 4)
theorem v_markFeatS'o_go {n : Nat} : ∀ (l done : List Ft') (k : Int), 0 ≤ k → k + 4 * l.length ≤ 4611686018427387904 → done.length + l.length ≤ 4611686018427387904 → ∀ j, l.length < j →
    fx (v_markFeatS'o_L1 n) j (k, (done.length : Int), done ++ l) = some (k + 4 * l.length, done ++ mkF l k)
  | [], done, k, h0, h1, hd, j + 1, hj => by
    rw [fx_succ]
    simp only [v_markFeatS'o_L1]
    rw [br_neg (decide_eq_false (by rw [List.append_nil]; omega))]
    simp [mkF]
  | c :: l, done, k, h0, h1, hd, j + 1, hj => by
    simp only [List.length_cons] at h1 hd hj
    rw [fx_succ]
    simp only [v_markFeatS'o_L1, lt_eq]
    have ln : ∀ x : Ft', (done ++ x :: l).length = done.length + l.length + 1 := fun x => by rw [List.length_append, List.length_cons]; omega
    have g : ∀ x : Ft', gl (0, (0, (0, 0))) (done ++ x :: l) done.length = x := fun x => by rw [gl_eq (by rw [ln]; omega)]; simp
    have st : ∀ x y : Ft', (done ++ x :: l).set done.length y = done ++ y :: l := fun x y => by simp
    have ib : ∀ x : Ft', inb (done.length : Int) (done ++ x :: l).length = true := fun x => inb_ok (by rw [ln]; omega)
    rw [br_pos (decide_eq_true (by rw [ln]; omega))]
    simp only [ib, ckb_true, toNat_cast, g, st]
    rw [w64_id (x := k + 1) (by omega), w64_id (x := k + 1 + 1) (by omega), w64_id (x := k + 1 + 1 + 1) (by omega), w64_id (x := k + 1 + 1 + 1 + 1) (by omega), w64_succ (by omega)]
    have e4 : ∀ x : Ft', done ++ x :: l = (done ++ [x]) ++ l := fun x => by simp
    rw [e4]
    have := v_markFeatS'o_go (n := n) l (done ++ [(k, (k + 1, (k + 2, k + 3)))]) (k + 4) (by omega) (by omega) (by simp; omega) j (by omega)
    have e5 : k + 1 + 1 = k + 2 := by omega
    have e6 : k + 2 + 1 = k + 3 := by omega
    have e7 : k + 3 + 1 = k + 4 := by omega
    rw [e5, e6, e7]
    rw [List.length_append, List.length_singleton] at this
    rw [this]
    simp only [mkF, List.append_assoc, List.singleton_append, List.length_cons]
    congr 2
    omega
theorem v_markFeatS'o_eq {n : Nat} (hn : BIG ≤ n) {l : List Ft'} {k : Int} (h0 : 0 ≤ k) (h1 : k + 4 * l.length ≤ 4611686018427387904) : v_markFeatS'o n k l = some (k + 4 * l.length, mkF l k) := by
  have := v_markFeatS'o_go (n := n) l [] k h0 h1 (by simp; omega) n (big_gt hn (by omega))
  exact this
end Go.Pl

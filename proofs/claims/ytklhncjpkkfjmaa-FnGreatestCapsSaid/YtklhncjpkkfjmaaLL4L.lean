/- Plain laws: L4L. -/
import Derived.Test.YtklhncjpkkfjmaaLL2b
import Derived.Test.YtklhncjpkkfjmaaLLR
set_option linter.unusedVariables false
set_option linter.unusedSimpArgs false
namespace Go.Pl
open Go Go.Tv Go.RowKit
set_option linter.unusedVariables false

/-! lines of a list, by their places -/
def z4 : Card := ⟨0, 0, 0, 0⟩
def lnAt (s : List Card) (i j k : Nat) : Bool := lineB (gl z4 s i) (gl z4 s j) (gl z4 s k)
def l1 (s : List Card) (i j k : Nat) : List (V3 Int) := if lnAt s i j k = true then [⟨i, j, k⟩] else []
def l2 (s : List Card) (i j : Nat) : List (V3 Int) := (List.range' (j + 1) (s.length - (j + 1))).flatMap (l1 s i j)
def l3 (s : List Card) (i : Nat) : List (V3 Int) := (List.range' (i + 1) (s.length - (i + 1))).flatMap (l2 s i)
def lns (s : List Card) : List (V3 Int) := (List.range' 0 (s.length - 0)).flatMap (l3 s)

theorem l1_len {s : List Card} {i j k : Nat} : (l1 s i j k).length ≤ 1 := by unfold l1; split <;> simp
theorem l2_len {s : List Card} {i j : Nat} : (l2 s i j).length ≤ s.length := by
  have := flen (l := List.range' (j + 1) (s.length - (j + 1))) (f := l1 s i j) (M := 1) fun _ _ => l1_len
  rw [List.length_range', Nat.mul_one] at this
  unfold l2; omega
theorem l3_len {s : List Card} {i : Nat} : (l3 s i).length ≤ s.length * s.length := by
  have := flen (l := List.range' (i + 1) (s.length - (i + 1))) (f := l2 s i) (M := s.length) fun _ _ => l2_len
  unfold l3
  refine Nat.le_trans this (Nat.mul_le_mul_right _ ?_)
  rw [List.length_range']; omega
theorem lns_len {s : List Card} : (lns s).length ≤ s.length * (s.length * s.length) := by
  have := flen (l := List.range' 0 (s.length - 0)) (f := l3 s) (M := s.length * s.length) fun _ _ => l3_len
  rw [List.length_range', Nat.sub_zero] at this
  unfold lns; exact this

theorem gl_isC {s : List Card} (hs : ∀ c, c ∈ s → isC c = true) {i : Nat} (h : i < s.length) : isC (gl z4 s i) = true := by
  rw [gl_eq h]; exact hs _ (List.getElem_mem h)

theorem s_l4Lines_eq {n : Nat} (hn : BIG ≤ n) {s : List Card} (hl : s.length ≤ 81) (hs : ∀ c, c ∈ s → isC c = true) : s_l4Lines n s = some (lns s) := by
  unfold s_l4Lines
  have b3 : s.length * (s.length * s.length) ≤ 81 * (81 * 81) := Nat.mul_le_mul hl (Nat.mul_le_mul hl hl)
  have h3 := lns_len (s := s)
  have e : ∀ i : Nat, i < s.length → decide ((i : Int) < (s.length : Int)) = true := fun i h => decide_eq_true (by omega)
  have e' : decide ((s.length : Int) < (s.length : Int)) = false := decide_eq_false (by omega)
  have := fx_app (B := s_l4Lines_L3 n) s.length (fun i a => (s, (i : Int), a)) (l3 s) some 1000000 (fun self i a hi hM => ?_) (fun self a => by simp only [s_l4Lines_L3, e', br_false]) n 0 [] (Nat.zero_le _) (big_gt hn (by omega)) (by unfold lns at h3; simp only [List.length_nil]; omega)
  · simpa [lns] using this
  · simp only [s_l4Lines_L3, e i hi, br_true, lt_eq]
    rw [w64_succ (by omega)]
    have := fx_app (B := s_l4Lines_L2 n self) s.length (fun j a => (s, (i : Int), (j : Int), a)) (l2 s i) (fun a => self (s, ((i + 1 : Nat) : Int), a)) 1000000 (fun self2 j a hj hM2 => ?_) (fun self2 a => by
      simp only [s_l4Lines_L2, e', br_false, lt_eq]; rw [w64_succ (by omega)]) n (i + 1) a (by omega) (big_gt hn (by omega)) (by unfold l3 at hM; exact hM)
    · exact this
    · simp only [s_l4Lines_L2, e j hj, br_true, lt_eq]
      rw [w64_succ (by omega)]
      have := fx_app (B := s_l4Lines_L1 n self2) s.length (fun k a => (s, (i : Int), (j : Int), (k : Int), a)) (l1 s i j) (fun a => self2 (s, (i : Int), ((j + 1 : Nat) : Int), a)) 1000000 (fun self3 k a hk hM3 => ?_) (fun self3 a => by
        simp only [s_l4Lines_L1, e', br_false, lt_eq]; rw [w64_succ (by omega)]) n (j + 1) a (by omega) (big_gt hn (by omega)) (by unfold l2 at hM2; exact hM2)
      · exact this
      · simp only [s_l4Lines_L1, e k hk, br_true, inb_ok hi, inb_ok hj, inb_ok hk, ckb_true, toNat_cast, lt_eq]
        have hln := s_l2Line_eq hn (gl z4 s k) (gl_isC hs hi) (gl_isC hs hj)
        unfold z4 at hln
        rw [hln, w64_succ (by omega)]
        have e5 : lineB (gl z4 s i) (gl z4 s j) (gl z4 s k) = lnAt s i j k := rfl
        unfold z4 at e5
        simp only [ob_some, e5]
        unfold l1 at hM3 ⊢
        cases hb : lnAt s i j k with
        | false => simp
        | true =>
          rw [hb] at hM3
          simp only [if_true, List.length_singleton] at hM3
          simp only [br_true, if_true]
          rw [apok_ok (by omega) (by omega)]; rfl

/-! the same, by choices -/

/-- in a list without doubles, the lines are those of the third cards -/
theorem flatMap_one {α : Type} (f : Nat → α) (q : Nat) : ∀ (m a : Nat), (List.range' a m).flatMap (fun k => if k = q then [f k] else []) = if a ≤ q ∧ q < a + m then [f q] else []
  | 0, a => by rw [if_neg (by omega)]; rfl
  | m + 1, a => by
    rw [List.range'_succ, List.flatMap_cons, flatMap_one f q m (a + 1)]
    by_cases h : a = q
    · rw [if_pos h, if_neg (by omega), if_pos (by omega), h]; rfl
    · rw [if_neg h, List.nil_append]
      by_cases h2 : a ≤ q ∧ q < a + (m + 1)
      · rw [if_pos h2, if_pos (by omega)]
      · rw [if_neg h2, if_neg (by omega)]
theorem l2_ln1 {h : List Card} (hnd : h.Nodup) {i j : Nat} (hij : i < j) (hj : j < h.length) : l2 h i j = ln1 h i j := by
  have hi : i < h.length := by omega
  have hne : gl z4 h i ≠ gl z4 h j := by
    rw [gl_eq hi, gl_eq hj]
    exact fun e => absurd ((List.getElem_inj hnd).1 e) (by omega)
  unfold l2 ln1
  show _ = if (j : Int) < place h (third (gl z4 h i) (gl z4 h j)) then _ else _
  by_cases hq : ∃ q : Nat, h[q]? = some (third (gl z4 h i) (gl z4 h j))
  · obtain ⟨q, hq⟩ := hq
    have hp := place_of hnd hq
    have hql : q < h.length := (List.getElem?_eq_some_iff.1 hq).1
    have hqe : gl z4 h q = third (gl z4 h i) (gl z4 h j) := by rw [gl_eq hql]; exact (List.getElem?_eq_some_iff.1 hq).2
    have e : ∀ k, k ∈ List.range' (j + 1) (h.length - (j + 1)) → l1 h i j k = if k = q then [(⟨i, j, k⟩ : V3 Int)] else [] := fun k hk => by
      rw [List.mem_range'_1] at hk
      have hkl : k < h.length := by omega
      unfold l1 lnAt lineB
      by_cases hkq : k = q
      · subst hkq; simp [hne, hqe]
      · have : third (gl z4 h i) (gl z4 h j) ≠ gl z4 h k := by
          rw [← hqe, gl_eq hql, gl_eq hkl]
          exact fun e => hkq ((List.getElem_inj hnd).1 e).symm
        simp [hkq, this]
    rw [flatMap_congr' e, flatMap_one, hp]
    by_cases h2 : j < q
    · rw [if_pos (by omega), if_pos (by omega)]
      show _ = [(⟨(i : Int), (j : Int), place h (third (gl z4 h i) (gl z4 h j))⟩ : V3 Int)]
      rw [hp]
    · rw [if_neg (by omega), if_neg (by omega)]
  · have hp := place_none fun q hq2 => hq ⟨q, hq2⟩
    rw [hp, if_neg (by omega)]
    rw [List.flatMap_eq_nil_iff]
    intro k hk
    rw [List.mem_range'_1] at hk
    have hkl : k < h.length := by omega
    unfold l1 lnAt lineB
    have : third (gl z4 h i) (gl z4 h j) ≠ gl z4 h k := by
      rw [gl_eq (d := z4) hkl]
      exact fun e => hq ⟨k, by rw [List.getElem?_eq_getElem hkl, ← e]⟩
    simp [this]
theorem lns_eq {h : List Card} (hnd : h.Nodup) : lns h = linesOf h := by
  unfold lns linesOf
  refine flatMap_congr' fun i hi => ?_
  unfold l3 ln2
  refine flatMap_congr' fun j hj => ?_
  rw [List.mem_range'_1] at hi hj
  exact l2_ln1 hnd (by omega) (by omega)
end Go.Pl

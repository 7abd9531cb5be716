/- Plain laws: R36. -/
import Derived.Test.YtogpfbmanlicdaaLR29
import Derived.KernelRfl
set_option linter.unusedVariables false
set_option linter.unusedSimpArgs false
namespace Go.Pl
open Go Go.Tv Go.RowKit
set_option linter.unusedVariables false

def ones (m : Nat) : Nat := m % 2 + m / 2 % 2 + m / 4 % 2 + m / 8 % 2
noncomputable def chkOnes (n : Nat) : Bool := (List.range 16).all fun m => decide (math_bits_OnesCount n (IntKind.wrap .u64 (m : Int)) = some (ones m : Int)) && decide (s_l11Kept (n + 8) (m : Int) = some (ones m : Int))
theorem chkOnes_ok (n : Nat) : chkOnes n = true := by kernel_rfl
theorem ones_i (n : Nat) {m : Nat} (h : m ≤ 15) : math_bits_OnesCount n (IntKind.wrap .u64 (m : Int)) = some (ones m : Int) := by
  have := List.all_eq_true.1 (chkOnes_ok n) m (List.mem_range.2 (by omega))
  rw [Bool.and_eq_true] at this
  exact of_decide_eq_true this.1
theorem ones_s {n : Nat} (hn : BIG ≤ n) {m : Nat} (h : m ≤ 15) : s_l11Kept n (m : Int) = some (ones m : Int) := by
  obtain ⟨k, rfl⟩ : ∃ k, n = k + 8 := ⟨n - 8, by unfold BIG at hn; omega⟩
  have := List.all_eq_true.1 (chkOnes_ok k) m (List.mem_range.2 (by omega))
  rw [Bool.and_eq_true] at this
  exact of_decide_eq_true this.2
def key (m : Nat) : Nat := 16 * ones m + m
/-- the best mask of all with p -/
structure BestM (p : Nat → Prop) (lo hi b : Nat) : Prop where
  is : b = 15 ∨ (p b ∧ lo ≤ b ∧ b < hi)
  le : b ≤ 15
  mn : ∀ m, lo ≤ m → m < hi → p m → key b ≤ key m
theorem key_inj {a b : Nat} (ha : a ≤ 15) (hb : b ≤ 15) (h : key a = key b) : a = b := by unfold key at h; omega
theorem best_uniq {p : Nat → Prop} {a b : Nat} (ha : BestM p 1 15 a) (hb : BestM p 1 15 b) : a = b := by
  have e : ∀ {a b : Nat}, BestM p 1 15 a → BestM p 1 15 b → key a ≤ key b := fun {a b} ha hb => by
    rcases hb.is with h | ⟨h1, h2, h3⟩
    · subst h
      have := ha.le
      have : ones a ≤ 4 := by unfold ones; omega
      have h15 : ones 15 = 4 := by decide
      unfold key; omega
    · exact ha.mn b h2 h3 h1
  exact key_inj ha.le hb.le (Nat.le_antisymm (e ha hb) (e hb ha))
def dis (h : List Card) (m : Nat) : Prop := (sortd (h.map (shadow (m : Int)))).length = h.length
def LQ2 (h : List Card) (o : Opt (Int × Bool)) : Prop := ∃ b : Nat, o = some ((b : Int), true) ∧ BestM (dis h) 1 15 b
theorem i_LeastMask_ok {n : Nat} (hn : BIG ≤ n) {h : List Card} (hh : hand h = true) : LQ2 h (i_LeastMask n h) := by
  have hlen := hand_len hh
  unfold i_LeastMask
  rw [i_IsHand_eq hn (by omega), hh, ob_some, Bool.not_true, br_false]
  refine fx_inv (B := i_LeastMask_L1 n) (fun s => ∃ (b m : Nat), s = (h, (b : Int), (m : Int)) ∧ 1 ≤ m ∧ m ≤ 15 ∧ BestM (dis h) 1 m b) (fun s => 100 - s.2.2.toNat) (LQ2 h) ?_ n _ ⟨15, 1, rfl, by omega, by omega, .inl rfl, by omega, fun m _ _ => by omega⟩ (big_gt hn (by simp only []; omega))
  rintro self _ ⟨b, m, rfl, h1, h15, B⟩ ih
  simp only [i_LeastMask_L1, lt_eq]
  by_cases hm : m < 15
  · rw [br_pos (decide_eq_true (show (m : Int) < 15 by omega)), i_shadows_eq hn (by omega), ob_some, i_sorted_eq hn (map_allC hh _) (by simp; omega), ob_some, w64_succ (by omega), ones_i n (by omega), ob_some, ones_i n B.le, ob_some]
    by_cases hd : (sortd (h.map (shadow (m : Int)))).length = h.length
    · rw [br_neg (show (!decide (((sortd (h.map (shadow (m : Int)))).length : Int) = (h.length : Int))) = false by rw [hd]; simp)]
      have hdd : dis h m := hd
      simp only [br_some, ob_some]
      by_cases hk : key m < key b
      · have : (if decide ((ones m : Int) < (ones b : Int)) = true then true else if decide ((ones m : Int) = (ones b : Int)) = true then decide ((m : Int) < (b : Int)) else false) = true := by
          have := B.le
          unfold key at hk
          by_cases c1 : (ones m : Int) < (ones b : Int)
          · simp [c1]
          · have c2 : (ones m : Int) = (ones b : Int) := by omega
            have c3 : (m : Int) < (b : Int) := by omega
            simp [c2, c3]
        rw [br_pos this]
        refine ih _ ⟨m, m + 1, rfl, by omega, by omega, .inr ⟨hdd, h1, by omega⟩, by omega, fun k k1 k2 k3 => ?_⟩ (by simp only []; omega)
        by_cases hkm : k = m
        · subst hkm; exact Nat.le_refl _
        · have := B.mn k k1 (by omega) k3; omega
      · have : (if decide ((ones m : Int) < (ones b : Int)) = true then true else if decide ((ones m : Int) = (ones b : Int)) = true then decide ((m : Int) < (b : Int)) else false) = false := by
          have := B.le
          unfold key at hk
          by_cases c1 : (ones m : Int) < (ones b : Int)
          · omega
          · by_cases c2 : (ones m : Int) = (ones b : Int)
            · have c3 : ¬ (m : Int) < (b : Int) := by omega
              simp [c2, c3]
            · simp [c1, c2]
        rw [br_neg this]
        refine ih _ ⟨b, m + 1, rfl, by omega, by omega, ?_, B.le, fun k k1 k2 k3 => ?_⟩ (by simp only []; omega)
        · rcases B.is with e | ⟨e1, e2, e3⟩
          · exact .inl e
          · exact .inr ⟨e1, e2, by omega⟩
        · by_cases hkm : k = m
          · subst hkm; omega
          · exact B.mn k k1 (by omega) k3
    · rw [br_pos (show (!decide (((sortd (h.map (shadow (m : Int)))).length : Int) = (h.length : Int))) = true by rw [decide_eq_false (by omega)]; rfl)]
      refine ih _ ⟨b, m + 1, rfl, by omega, by omega, ?_, B.le, fun k k1 k2 k3 => ?_⟩ (by simp only []; omega)
      · rcases B.is with e | ⟨e1, e2, e3⟩
        · exact .inl e
        · exact .inr ⟨e1, e2, by omega⟩
      · by_cases hkm : k = m
        · subst hkm; exact absurd k3 hd
        · exact B.mn k k1 (by omega) k3
  · have : m = 15 := by omega
    subst this
    rw [br_neg (decide_eq_false (by omega))]
    exact ⟨b, rfl, B⟩
theorem s_LeastMask_ok {n : Nat} (hn : BIG ≤ n) {h : List Card} (hh : hand h = true) : LQ2 h (s_LeastMask n h) := by
  have hlen := hand_len hh
  unfold s_LeastMask
  rw [s_l2Hand_eq hn (by omega), hh, ob_some, Bool.not_true, br_false]
  refine fx_inv (B := s_LeastMask_L1 n) (fun s => ∃ (b m : Nat), s = (h, (b : Int), (m : Int)) ∧ m ≤ 14 ∧ BestM (dis h) (m + 1) 15 b) (fun s => s.2.2.toNat) (LQ2 h) ?_ n _ ⟨15, 14, rfl, by omega, .inl rfl, by omega, fun m _ _ => by omega⟩ (big_gt hn (by simp only []; omega))
  rintro self _ ⟨b, m, rfl, h15, B⟩ ih
  simp only [s_LeastMask_L1, lt_eq]
  by_cases hm : 1 ≤ m
  · rw [br_pos (decide_eq_true (show (1 : Int) ≤ (m : Int) by omega)), s_l11All_eq hn (by omega), ob_some, s_l2Sorted_eq hn (map_allC hh _) (by simp; omega), ob_some, w64_pred hm (by omega), ones_s hn (by omega), ob_some, ones_s hn B.le, ob_some]
    by_cases hd : (sortd (h.map (shadow (m : Int)))).length = h.length
    · rw [br_pos (decide_eq_true (show ((sortd (h.map (shadow (m : Int)))).length : Int) = (h.length : Int) by rw [hd])), ob_some, br_dec]
      have hdd : dis h m := hd
      have hbm : m < b := by
        rcases B.is with e | ⟨e1, e2, e3⟩ <;> omega
      split
      · refine ih _ ⟨m, m - 1, rfl, by omega, .inr ⟨hdd, by omega, by omega⟩, by omega, fun k k1 k2 k3 => ?_⟩ (by simp only []; omega)
        by_cases hkm : k = m
        · subst hkm; exact Nat.le_refl _
        · have := B.mn k (by omega) k2 k3
          unfold key at this ⊢; omega
      · refine ih _ ⟨b, m - 1, rfl, by omega, ?_, B.le, fun k k1 k2 k3 => ?_⟩ (by simp only []; omega)
        · rcases B.is with e | ⟨e1, e2, e3⟩
          · exact .inl e
          · exact .inr ⟨e1, by omega, e3⟩
        · by_cases hkm : k = m
          · subst hkm; have := B.le; unfold key; omega
          · exact B.mn k (by omega) k2 k3
    · rw [br_neg (decide_eq_false (show ¬ ((sortd (h.map (shadow (m : Int)))).length : Int) = (h.length : Int) by omega)), ob_some, br_false]
      refine ih _ ⟨b, m - 1, rfl, by omega, ?_, B.le, fun k k1 k2 k3 => ?_⟩ (by simp only []; omega)
      · rcases B.is with e | ⟨e1, e2, e3⟩
        · exact .inl e
        · exact .inr ⟨e1, by omega, e3⟩
      · by_cases hkm : k = m
        · subst hkm; exact absurd k3 hd
        · exact B.mn k (by omega) k2 k3
  · have : m = 0 := by omega
    subst this
    rw [br_neg (decide_eq_false (by omega))]
    exact ⟨b, rfl, B⟩
theorem LeastMask_eq {n : Nat} (hn : BIG ≤ n) {h : List Card} (hl : h.length ≤ 1048576) : ∃ r, s_LeastMask n h = some r ∧ i_LeastMask n h = some r ∧ (hand h = true → ∃ b : Nat, r = ((b : Int), true) ∧ 1 ≤ b ∧ b ≤ 15 ∧ (b = 15 ∨ dis h b)) := by
  cases hh : hand h with
  | false =>
    refine ⟨(0, false), ?_, ?_, fun h => by cases h⟩
    · unfold s_LeastMask; rw [s_l2Hand_eq hn (by omega), hh]; rfl
    · unfold i_LeastMask; rw [i_IsHand_eq hn (by omega), hh]; rfl
  | true =>
    obtain ⟨a, e1, A⟩ := i_LeastMask_ok hn hh
    obtain ⟨b, e2, B⟩ := s_LeastMask_ok hn hh
    have := best_uniq A B
    subst this
    refine ⟨_, e2, e1, fun _ => ⟨a, rfl, ?_, A.le, ?_⟩⟩
    · rcases A.is with e | ⟨h1, h2, h3⟩ <;> omega
    · rcases A.is with e | ⟨h1, h2, h3⟩
      · exact .inl e
      · exact .inr h1
theorem law_FnExactLeastMask {n : Nat} (hn : BIG ≤ n) (h : List Card) (ok : (Ty.sl (.arr 4 (.int .i64))).ok h) : v_FnExactLeastMask n h = some true := by
  have hl : h.length ≤ 9223372036854775807 := ok_list ok
  unfold v_FnExactLeastMask
  rw [v_szIntA4S_eq (by omega) (by omega), ob_some]
  by_cases h1 : (1048576 : Int) - (h.length : Int) < 0
  · rw [if_pos h1]; rfl
  have hl2 : h.length ≤ 1048576 := by omega
  obtain ⟨r, e1, e2, _⟩ := LeastMask_eq hn hl2
  rw [if_neg h1, decide_eq_false h1, br_false]
  simp only [v_toIntA4S_eq hn (show h.length ≤ 1099511627776 by omega), ob_some, e1, e2, v_eqIntA4S_eq hn hl, decide_true, Bool.not_true, br_false, br_some, beq_self_eq_true, Bool.false_eq_true, if_false]
end Go.Pl

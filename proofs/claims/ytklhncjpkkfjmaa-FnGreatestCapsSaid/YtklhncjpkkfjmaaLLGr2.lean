/- Plain laws: LGr2. -/
import Derived.Test.YtklhncjpkkfjmaaLLGr
import Derived.Test.YtklhncjpkkfjmaaLL4L
set_option linter.unusedVariables false
set_option linter.unusedSimpArgs false
namespace Go.Pl
open Go Go.Tv Go.RowKit
set_option linter.unusedVariables false
set_option linter.unusedSimpArgs false

/-! lists of caps -/
theorem X_gt (h : List Card) : ∀ {m : Nat} {I : List Nat} {k : Nat} {L : List Nat}, L ∈ X h m I k → I.length < L.length ∧ L.length ≤ I.length + m
  | 0, I, k, L, hL => by cases hL
  | m + 1, I, k, L, hL => by
    rw [X, List.mem_append] at hL
    rcases hL with hL | hL
    · split at hL
      · rcases List.mem_cons.1 hL with rfl | hL
        · rw [List.length_append, List.length_singleton]; omega
        · have := X_gt h hL
          rw [List.length_append, List.length_singleton] at this; omega
      · cases hL
    · have := X_gt h hL; omega
theorem bst_assoc (b c d : List Nat) : bst (bst b c) d = bst b (bst c d) := by
  unfold bst
  by_cases h1 : b.length < c.length
  · by_cases h2 : c.length < d.length
    · simp [h1, h2, show b.length < d.length by omega]
    · simp [h1, h2]
  · by_cases h2 : c.length < d.length
    · simp [h1, h2]
    · simp [h1, h2, show ¬ b.length < d.length by omega]
theorem bst_fold : ∀ (l : List (List Nat)) (b c : List Nat), l.foldl bst (bst b c) = bst b (l.foldl bst c)
  | [], _, _ => rfl
  | d :: l, b, c => by rw [List.foldl_cons, List.foldl_cons, bst_assoc, bst_fold l]
theorem bst_stay : ∀ {l : List (List Nat)} {b : List Nat}, (∀ L ∈ l, L.length ≤ b.length) → l.foldl bst b = b
  | [], _, _ => rfl
  | d :: l, b, h => by
    have := h d List.mem_cons_self
    rw [List.foldl_cons, show bst b d = b by unfold bst; rw [if_neg (by omega)]]
    exact bst_stay fun L hL => h L (List.mem_cons_of_mem _ hL)
theorem bst_max : ∀ (l : List (List Nat)) (b : List Nat), (l.foldl bst b = b ∨ l.foldl bst b ∈ l) ∧ b.length ≤ (l.foldl bst b).length ∧ ∀ L ∈ l, L.length ≤ (l.foldl bst b).length
  | [], b => ⟨.inl rfl, Nat.le_refl _, fun L hL => by cases hL⟩
  | d :: l, b => by
    obtain ⟨h1, h2, h3⟩ := bst_max l (bst b d)
    rw [List.foldl_cons]
    have hb : b.length ≤ (bst b d).length ∧ d.length ≤ (bst b d).length := by unfold bst; split <;> omega
    refine ⟨?_, by omega, fun L hL => ?_⟩
    · rcases h1 with h1 | h1
      · rw [h1]
        unfold bst
        split
        · exact .inr List.mem_cons_self
        · exact .inl rfl
      · exact .inr (List.mem_cons_of_mem _ h1)
    · rcases List.mem_cons.1 hL with rfl | hL
      · omega
      · exact h3 L hL
theorem s_ok {n : Nat} (hn : BIG ≤ n) {h : List Card} (H : HandL h) {I : List Nat} {k : Nat} (P : Pk I k) (hk : k ≤ h.length) : s_l3Picked n h (iz I) = some (I.map (gz h)) ∧ s_l2Through n (I.map (gz h)) (gz h k) = some ((thr (I.map (gz h)) (gz h k) : Nat) : Int) := by
  have hl := H.len
  have hI := P.len
  have hb : ∀ i ∈ I, i < h.length := fun i hi => by have := P.lt i hi; omega
  exact ⟨s_l3Picked_eq hn h hb (by omega), s_l2Through_eq hn (ix_hand H P.pw hb) _⟩
theorem s_search {n : Nat} (hn : BIG ≤ n) {h : List Card} (H : HandL h) : ∀ (K j : Nat) (I : List Nat), j ≤ h.length → Pk I j → h.length - j < K →
    fx (s_l3Search'lk_R n) K (h, iz I, (j : Int)) = some (iz ((X h (h.length - j) I j).foldl bst I))
  | 0, _, _, _, _, hK => by omega
  | K + 1, j, I, hj, P, hK => by
    rw [fx_succ]
    simp only [s_l3Search'lk_R]
    have hl := H.len
    have hI := P.len
    have := fx_up (B := s_l3Search'lk_L1 n (fx (s_l3Search'lk_R n) K)) h.length (fun j (b : List Nat) => (h, iz I, iz b, (j : Int))) (fun j' _ => j ≤ j') (fun j b => some (iz ((X h (h.length - j) I j).foldl bst b))) (fun self j' b' hj' hJ ih => by
      simp only [s_l3Search'lk_L1, lt_eq]
      by_cases h1 : j' < h.length
      · rw [br_pos (decide_eq_true (show (j' : Int) < (h.length : Int) by omega)), iz_len, iz_len, w64_id (x := (I.length : Int) + (h.length : Int)) (by omega), w64_id (by omega), ob_some]
        by_cases hp : (b'.length : Int) < (I.length : Int) + (h.length : Int) - (j' : Int)
        · obtain ⟨m, hm⟩ : ∃ m, h.length - j' = m + 1 := ⟨h.length - j' - 1, by omega⟩
          have hm' : h.length - (j' + 1) = m := by omega
          have P' := P.mono hJ
          obtain ⟨k1, k2⟩ := s_ok hn H P' hj'
          have k2 : s_l2Through n (I.map (gz h)) (gl ⟨0, 0, 0, 0⟩ h j') = _ := k2
          rw [br_pos (decide_eq_true hp), k1, ob_some, ckb_pos (inb_ok h1), toNat_cast, k2, ob_some, hm, X, w64_succ (by omega)]
          rw [hm'] at ih
          unfold okc
          by_cases h0 : thr (I.map (gz h)) (gz h j') = 0
          · rw [h0]
            unfold s_l1Own
            have hr := s_search hn H K (j' + 1) (I ++ [j']) (by omega) P'.snoc (by omega)
            rw [hm'] at hr
            rw [br_neg (decide_eq_false (by omega)), ckb_pos (apok_ok (by rw [iz_len]; omega) (by rw [iz_len]; omega)), ob_some, ckb_pos (apok_ok (by rw [iz_len]; omega) (by rw [iz_len]; omega)), iz_snoc, hr, ob_some, iz_len, if_pos (decide_eq_true rfl), List.foldl_append, List.foldl_cons, bst_fold]
            generalize (X h m (I ++ [j']) (j' + 1)).foldl bst (I ++ [j']) = r
            unfold bst
            by_cases hlt : b'.length < r.length
            · rw [br_pos (decide_eq_true (by omega)), if_pos hlt]; exact ih r h1 (by omega)
            · rw [br_neg (decide_eq_false (by omega)), if_neg hlt]; exact ih b' h1 (by omega)
          · rw [br_pos (decide_eq_true (show (0 : Int) < ((thr (I.map (gz h)) (gz h j') : Nat) : Int) by omega)), if_neg (by simpa using h0), List.nil_append]
            exact ih b' h1 (by omega)
        · rw [br_neg (decide_eq_false hp), bst_stay fun L hL => by have := (X_gt h hL).2; omega]
      · have : j' = h.length := by omega
        subst this
        rw [br_neg (decide_eq_false (by omega)), ob_some, br_false, Nat.sub_self]; rfl) n j I hj (Nat.le_refl _) (big_gt hn (by omega))
    exact this
def cnt (h : List Card) (j : Nat) (I : List Nat) (l : Nat) : Nat := (X h (h.length - j) I j).countP fun L => decide (L.length = l)
theorem s_count3 {n : Nat} (hn : BIG ≤ n) {h : List Card} (H : HandL h) (h15 : h.length ≤ 15) : ∀ (K j : Nat) (I : List Nat) (l : Nat), j ≤ h.length → Pk I j → l ≤ 15 → h.length - j < K →
    fx (s_l3Count_R n) K (h, iz I, (j : Int), (l : Int)) = some (((I :: X h (h.length - j) I j).countP fun L => decide (L.length = I.length + l) : Nat) : Int)
  | 0, _, _, _, _, _, _, hK => by omega
  | K + 1, j, I, 0, hj, P, hl, hK => by
    rw [fx_succ]
    simp only [s_l3Count_R]
    rw [show decide (((0 : Nat) : Int) = 0) = true from rfl, br_true, List.countP_cons]
    have : (X h (h.length - j) I j).countP (fun L => decide (L.length = I.length + 0)) = 0 := List.countP_eq_zero.2 fun L hL => by
      have := (X_gt h hL).1
      simp; omega
    rw [this]; simp
  | K + 1, j, I, l + 1, hj, P, hl, hK => by
    rw [fx_succ]
    simp only [s_l3Count_R]
    rw [show decide (((l + 1 : Nat) : Int) = 0) = false from decide_eq_false (by omega), br_false]
    have hI := P.len
    have hp0 : ∀ m : Nat, 1 ≤ 2 ^ m := fun m => Nat.one_le_two_pow
    have h215 : 2 ^ (h.length - j) ≤ 32768 := Nat.le_trans (Nat.pow_le_pow_right (by omega) (show h.length - j ≤ 15 by omega)) (by decide)
    have := fx_up (B := s_l3Count_L1 n (fx (s_l3Count_R n) K)) h.length (fun j (c : Nat) => (h, iz I, ((l + 1 : Nat) : Int), (c : Int), (j : Int))) (fun j' c => j ≤ j' ∧ c + 2 ^ (h.length - j') ≤ 1000001) (fun j c => some ((c + cnt h j I (I.length + (l + 1)) : Nat) : Int)) (fun self j' c' hj' hJ ih => by
      obtain ⟨hjj, hb⟩ := hJ
      simp only [s_l3Count_L1, lt_eq]
      by_cases h1 : j' < h.length
      · obtain ⟨m, hm⟩ : ∃ m, h.length - j' = m + 1 := ⟨h.length - j' - 1, by omega⟩
        have hm' : h.length - (j' + 1) = m := by omega
        have P' := P.mono hjj
        obtain ⟨k1, k2⟩ := s_ok hn H P' hj'
        have k2 : s_l2Through n (I.map (gz h)) (gl ⟨0, 0, 0, 0⟩ h j') = _ := k2
        have l1 := X_len h m (I ++ [j']) (j' + 1)
        rw [hm, Nat.pow_succ] at hb
        rw [br_pos (decide_eq_true (show (j' : Int) < (h.length : Int) by omega)), k1, ob_some, ckb_pos (inb_ok h1), toNat_cast, k2, ob_some, w64_succ (k := j') (by omega)]
        have ih := fun a' ha => ih a' h1 ⟨by omega, ha⟩
        rw [hm'] at ih
        have e : cnt h j' I (I.length + (l + 1)) = (if okc h I j' = true then ((I ++ [j']) :: X h m (I ++ [j']) (j' + 1)) else []).countP (fun L => decide (L.length = I.length + (l + 1))) + cnt h (j' + 1) I (I.length + (l + 1)) := by
          unfold cnt
          rw [hm, hm', X, List.countP_append]
        rw [e]
        unfold okc
        by_cases h0 : thr (I.map (gz h)) (gz h j') = 0
        · rw [h0, if_pos (decide_eq_true rfl)]
          unfold s_l1Own
          have hr := s_count3 hn H h15 K (j' + 1) (I ++ [j']) l (by omega) P'.snoc (by omega) (by omega)
          rw [hm', List.length_append, List.length_singleton, show I.length + 1 + l = I.length + (l + 1) by omega] at hr
          have hcp : ((I ++ [j']) :: X h m (I ++ [j']) (j' + 1)).countP (fun L => decide (L.length = I.length + (l + 1))) ≤ 2 ^ m := Nat.le_trans List.countP_le_length (by rw [List.length_cons]; omega)
          rw [show decide (((0 : Nat) : Int) = 0) = true from rfl, br_true, ckb_pos (apok_ok (by rw [iz_len]; omega) (by rw [iz_len]; omega)), ob_some, ckb_pos (apok_ok (by rw [iz_len]; omega) (by rw [iz_len]; omega)), iz_snoc, show w64 (((l + 1 : Nat) : Int) - 1) = (l : Int) by rw [w64_id (by omega)]; omega, hr, ob_some]
          generalize ((I ++ [j']) :: X h m (I ++ [j']) (j' + 1)).countP (fun L => decide (L.length = I.length + (l + 1))) = q at hcp
          have e2 : w64 ((c' : Int) + (q : Int)) = ((c' + q : Nat) : Int) := by rw [w64_id (by omega)]; omega
          rw [e2, ih (c' + q) (by omega)]
          congr 2; omega
        · rw [br_neg (decide_eq_false (show ¬ ((thr (I.map (gz h)) (gz h j') : Nat) : Int) = 0 by omega)), if_neg (by simpa using h0), List.countP_nil, Nat.zero_add]
          exact ih c' (by have := hp0 m; omega)
      · have : j' = h.length := by omega
        subst this
        rw [br_neg (decide_eq_false (by omega))]
        unfold cnt
        rw [Nat.sub_self]; rfl) n j 0 hj ⟨Nat.le_refl _, by omega⟩ (big_gt hn (by omega))
    refine Eq.trans this ?_
    rw [Nat.zero_add, List.countP_cons]
    have : decide (I.length = I.length + (l + 1)) = false := decide_eq_false (by omega)
    rw [this]; simp [cnt]
end Go.Pl

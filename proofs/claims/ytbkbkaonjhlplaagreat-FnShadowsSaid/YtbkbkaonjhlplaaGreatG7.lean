/- Plain laws: LCp, L4L, LS, LT, LU. -/
import Derived.Test.YtbkbkaonjhlplaaGreatG6
import Derived.Test.YtbkbkaonjhlplaaGreatG0
import Derived.Test.YtbkbkaonjhlplaaGreatG1
import Derived.Test.YtbkbkaonjhlplaaGreatG2
set_option linter.unusedVariables false
set_option linter.unusedSimpArgs false
namespace Go.Pl
open Go Go.Tv Go.RowKit
set_option linter.unusedVariables false

/-! cap functions -/
def BK (b : Bool) (h : List Card) : Bool × List Int := if hand h then (true, outs h b) else (false, [])
theorem s_BlockedCards_eq {n : Nat} (hn : BIG ≤ n) {h : List Card} (hl : h.length ≤ 1048576) : s_BlockedCards n h = some (BK true h) := by
  unfold s_BlockedCards BK
  rw [s_l2Hand_eq hn (by omega), ob_some]
  cases hh : hand h with
  | false => rfl
  | true => rw [s_l3Cards_eq hn (HandL.of hh)]; rfl
theorem i_BlockedCards_eq {n : Nat} (hn : BIG ≤ n) {h : List Card} (hl : h.length ≤ 1048576) : i_BlockedCards n h = some (BK true h) := by
  unfold i_BlockedCards BK
  rw [i_IsHand_eq hn (by omega), ob_some]
  cases hh : hand h with
  | false => rfl
  | true => rw [i_outside_eq hn (HandL.of hh)]; rfl
theorem s_FreeCards_eq {n : Nat} (hn : BIG ≤ n) {h : List Card} (hl : h.length ≤ 1048576) : s_FreeCards n h = some (BK false h) := by
  unfold s_FreeCards BK
  rw [s_l2Hand_eq hn (by omega), ob_some]
  cases hh : hand h with
  | false => rfl
  | true => rw [s_l3Cards_eq hn (HandL.of hh)]; rfl
theorem i_FreeCards_eq {n : Nat} (hn : BIG ≤ n) {h : List Card} (hl : h.length ≤ 1048576) : i_FreeCards n h = some (BK false h) := by
  unfold i_FreeCards BK
  rw [i_IsHand_eq hn (by omega), ob_some]
  cases hh : hand h with
  | false => rfl
  | true => rw [i_outside_eq hn (HandL.of hh)]; rfl
def IC (h : List Card) : Bool × Bool := if hand h then (capB h, true) else (false, false)
theorem s_IsCap_eq {n : Nat} (hn : BIG ≤ n) {h : List Card} (hl : h.length ≤ 1048576) : s_IsCap n h = some (IC h) := by
  unfold s_IsCap IC
  rw [s_l2Hand_eq hn (by omega), ob_some]
  cases hh : hand h with
  | false => rfl
  | true => rw [s_l3Cap_eq hn hh]; rfl
theorem i_IsCap_eq {n : Nat} (hn : BIG ≤ n) {h : List Card} (hl : h.length ≤ 1048576) : i_IsCap n h = some (IC h) := by
  unfold i_IsCap IC
  rw [i_IsHand_eq hn (by omega), ob_some]
  cases hh : hand h with
  | false => rfl
  | true => rw [i_isCap_eq hn hh]; rfl
def FU (h : List Card) : Bool × Bool := if hand h then (capB h && decide (((outs h false).length : Int) = 0), true) else (false, false)
theorem s_IsFullCap_eq {n : Nat} (hn : BIG ≤ n) {h : List Card} (hl : h.length ≤ 1048576) : s_IsFullCap n h = some (FU h) := by
  unfold s_IsFullCap FU
  rw [s_l2Hand_eq hn (by omega), ob_some]
  cases hh : hand h with
  | false => rfl
  | true =>
    rw [s_l3Cap_eq hn hh]
    cases capB h with
    | false => rfl
    | true => rw [s_l3Cards_eq hn (HandL.of hh)]; rfl
theorem i_IsFullCap_eq {n : Nat} (hn : BIG ≤ n) {h : List Card} (hl : h.length ≤ 1048576) : i_IsFullCap n h = some (FU h) := by
  unfold i_IsFullCap FU
  rw [i_IsHand_eq hn (by omega), ob_some]
  cases hh : hand h with
  | false => rfl
  | true =>
    rw [i_isCap_eq hn hh]
    cases capB h with
    | false => rfl
    | true => rw [i_outside_eq hn (HandL.of hh)]; rfl
theorem s_capLines_eq {n : Nat} (hn : BIG ≤ n) {h : List Card} (H : HandL h) (c : Card) : fx (s_CapLines_L2 n) n (h, 0, c, []) = some (true, prs h c) := by
  have hl := H.len
  have hb := thr_len (h := h) (c := c)
  have hb2 : h.length * h.length ≤ 100 * 100 := Nat.mul_le_mul hl hl
  have := fx_app (B := s_CapLines_L2 n) h.length (fun i a => (h, (i : Int), c, a)) (pr2 h c) (fun a => some (true, a)) 1000000 (fun self i a hi hM => by
    simp only [s_CapLines_L2, lt_eq]
    rw [br_pos (decide_eq_true (show (i : Int) < (h.length : Int) by omega)), w64_succ (by omega)]
    refine fx_app (B := s_CapLines_L1 n self) h.length (fun j a => (h, (i : Int), (j : Int), c, a)) (pr1 h c i) (fun a => self (h, ((i + 1 : Nat) : Int), c, a)) 1000000 (fun self2 j a hj hM2 => ?_) (fun self2 a => by
      simp only [s_CapLines_L1, lt_eq]
      rw [br_neg (decide_eq_false (by omega)), w64_succ (by omega)]) n (i + 1) a (by omega) (big_gt hn (by omega)) (by unfold pr2 at hM; exact hM)
    simp only [s_CapLines_L1, lt_eq]
    rw [br_pos (decide_eq_true (show (j : Int) < (h.length : Int) by omega)), ckb_pos (inb_ok hi), ckb_pos (inb_ok hj), toNat_cast, toNat_cast, s_l2Line_eq hn c (gl_C H.c hi) (gl_C H.c hj), ob_some, w64_succ (k := j) (by omega)]
    unfold pr1 at hM2 ⊢
    cases hx : lineB (gl ⟨0, 0, 0, 0⟩ h i) (gl ⟨0, 0, 0, 0⟩ h j) c with
    | true =>
      rw [hx] at hM2
      simp only [if_true, List.length_singleton] at hM2
      rw [br_true, ckb_pos (apok_ok (by omega) (by omega))]; simp
    | false => simp) (fun self a => by
    simp only [s_CapLines_L2]
    rw [br_neg (decide_eq_false (by omega))]) n 0 [] (Nat.zero_le _) (big_gt hn (by omega)) (by unfold thr prs at hb; simp only [List.length_nil]; omega)
  rw [List.nil_append] at this
  exact this
def CL (h : List Card) (c : Card) : Bool × List (V2 Int) := if hand h && isC c && !h.contains c then (true, prs h c) else (false, [])
theorem s_CapLines_eq {n : Nat} (hn : BIG ≤ n) {h : List Card} (hl : h.length ≤ 1048576) (c : Card) : s_CapLines n h c = some (CL h c) := by
  unfold s_CapLines CL
  rw [s_l2Hand_eq hn (by omega), ob_some]
  cases hh : hand h with
  | false => rfl
  | true =>
    rw [s_l2Card_eq hn]
    cases hc : isC c with
    | false => rfl
    | true =>
      simp only [Bool.not_true, br_false, ob_some]
      rw [s_l2Has_eq hn (by omega)]
      cases hm : h.contains c with
      | true => rfl
      | false => exact s_capLines_eq hn (HandL.of hh) c
theorem i_CapLines_eq {n : Nat} (hn : BIG ≤ n) {h : List Card} (hl : h.length ≤ 1048576) (c : Card) : i_CapLines n h c = some (CL h c) := by
  unfold i_CapLines CL
  rw [i_IsHand_eq hn (by omega), ob_some]
  cases hh : hand h with
  | false => rfl
  | true =>
    rw [i_IsCard_eq hn]
    cases hc : isC c with
    | false => rfl
    | true =>
      simp only [Bool.not_true, br_false, ob_some]
      rw [i_has_eq hn (by omega)]
      cases hm : h.contains c with
      | true => rfl
      | false =>
        simp only [br_false, ob_some]
        rw [i_pairsFor_eq hn (HandL.of hh)]; rfl

/-! words of the laws -/
theorem v_vHas_eq {n : Nat} (hn : BIG ≤ n) {a : List Int} (hl : a.length ≤ 1000000) (x : Int) : v_vHas n a x = some (a.contains x) := by
  unfold v_vHas
  have := fx_cnt (B := v_vHas_L1 n) a.length (fun i => (a, x, (i : Int))) (fun _ => True) (fun i => some ((a.drop i).contains x)) (fun self i hi _ ih => by
    simp only [v_vHas_L1]
    by_cases h : i < a.length
    · rw [br_pos (decide_eq_true (show (i : Int) < (a.length : Int) by omega)), ckb_pos (inb_ok h), toNat_cast, gl_eq h, lt_eq, w64_succ (by omega)]
      rw [List.drop_eq_getElem_cons h, List.contains_cons]
      by_cases hc : a[i] = x
      · rw [br_pos (decide_eq_true hc)]; simp [hc]
      · rw [br_neg (decide_eq_false hc), ih h trivial]
        have : (x == a[i]) = false := by simpa [beq_eq_false_iff_ne] using fun e => hc (Eq.symm e)
        rw [this, Bool.false_or]
    · rw [br_neg (decide_eq_false (by omega)), List.drop_eq_nil_of_le (by omega)]; rfl) n 0 (Nat.zero_le _) trivial (big_gt hn (by omega))
  simpa using this
theorem v_vHands_eq {n : Nat} (hn : BIG ≤ n) {a b : List Card} (hl : a.length ≤ 9223372036854775806) : v_vHands n a b = some (decide (a = b)) := by
  unfold v_vHands
  by_cases hlen : a.length = b.length
  · have e0 : decide ((a.length : Int) = (b.length : Int)) = true := decide_eq_true (by omega)
    simp only [e0, Bool.not_true, br_false]
    have := fx_cnt (B := v_vHands_L1 n) a.length (fun i => (a, b, (i : Int))) (fun _ => True) (fun i => some (decide (a.drop i = b.drop i))) (fun self i hi _ ih => by
      simp only [v_vHands_L1]
      by_cases h : i < a.length
      · have e1 : decide ((i : Int) < (a.length : Int)) = true := decide_eq_true (by omega)
        simp only [e1, br_true, inb_ok h, inb_ok (show i < b.length by omega), ckb_true, toNat_cast, gl_eq h, gl_eq (show i < b.length by omega), lt_eq]
        rw [List.drop_eq_getElem_cons h, List.drop_eq_getElem_cons (show i < b.length by omega)]
        by_cases hc : a[i] = b[i]
        · simp only [eqd, hc, decide_true, Bool.not_true, br_false, List.cons.injEq, true_and]
          rw [w64_succ (by omega)]; exact ih h trivial
        · have hne : ¬ (a[i] :: a.drop (i + 1) = b[i] :: b.drop (i + 1)) := fun e => hc (List.cons.inj e).1
          rw [decide_eq_false hne]; unfold eqd; rw [decide_eq_false hc]; rfl
      · have e1 : decide ((i : Int) < (a.length : Int)) = false := decide_eq_false (by omega)
        simp only [e1, br_false]
        rw [List.drop_eq_nil_of_le (by omega), List.drop_eq_nil_of_le (by omega)]; simp) n 0 (Nat.zero_le _) trivial (big_gt hn (by omega))
    simpa using this
  · have e0 : decide ((a.length : Int) = (b.length : Int)) = false := decide_eq_false (by omega)
    simp only [e0, Bool.not_false, br_true]
    have : a ≠ b := fun h => hlen (by rw [h])
    simp [this]
theorem v_vPairs_eq {n : Nat} (hn : BIG ≤ n) {a b : List (V2 Int)} (hl : a.length ≤ 9223372036854775806) : v_vPairs n a b = some (decide (a = b)) := by
  unfold v_vPairs
  by_cases hlen : a.length = b.length
  · have e0 : decide ((a.length : Int) = (b.length : Int)) = true := decide_eq_true (by omega)
    simp only [e0, Bool.not_true, br_false]
    have := fx_cnt (B := v_vPairs_L1 n) a.length (fun i => (a, b, (i : Int))) (fun _ => True) (fun i => some (decide (a.drop i = b.drop i))) (fun self i hi _ ih => by
      simp only [v_vPairs_L1]
      by_cases h : i < a.length
      · have e1 : decide ((i : Int) < (a.length : Int)) = true := decide_eq_true (by omega)
        simp only [e1, br_true, inb_ok h, inb_ok (show i < b.length by omega), ckb_true, toNat_cast, gl_eq h, gl_eq (show i < b.length by omega), lt_eq]
        rw [List.drop_eq_getElem_cons h, List.drop_eq_getElem_cons (show i < b.length by omega)]
        by_cases hc : a[i] = b[i]
        · simp only [eqd, hc, decide_true, Bool.not_true, br_false, List.cons.injEq, true_and]
          rw [w64_succ (by omega)]; exact ih h trivial
        · have hne : ¬ (a[i] :: a.drop (i + 1) = b[i] :: b.drop (i + 1)) := fun e => hc (List.cons.inj e).1
          rw [decide_eq_false hne]; unfold eqd; rw [decide_eq_false hc]; rfl
      · have e1 : decide ((i : Int) < (a.length : Int)) = false := decide_eq_false (by omega)
        simp only [e1, br_false]
        rw [List.drop_eq_nil_of_le (by omega), List.drop_eq_nil_of_le (by omega)]; simp) n 0 (Nat.zero_le _) trivial (big_gt hn (by omega))
    simpa using this
  · have e0 : decide ((a.length : Int) = (b.length : Int)) = false := decide_eq_false (by omega)
    simp only [e0, Bool.not_false, br_true]
    have : a ≠ b := fun h => hlen (by rw [h])
    simp [this]

/-! greedy caps -/
def grK (h : List Card) : Nat → List Nat
  | 0 => []
  | k + 1 => if thr ((grK h k).map (gz h)) (gz h k) = 0 then grK h k ++ [k] else grK h k
theorem grK_lt (h : List Card) : ∀ k, ∀ i ∈ grK h k, i < k
  | 0, i, hi => by cases hi
  | k + 1, i, hi => by
    unfold grK at hi
    split at hi
    · rcases List.mem_append.1 hi with hi | hi
      · have := grK_lt h k i hi; omega
      · rw [List.mem_singleton] at hi; omega
    · have := grK_lt h k i hi; omega
theorem grK_pw (h : List Card) : ∀ k, (grK h k).Pairwise (· < ·)
  | 0 => List.Pairwise.nil
  | k + 1 => by
    unfold grK
    split
    · exact List.pairwise_append.2 ⟨grK_pw h k, List.pairwise_singleton _ _, fun a ha b hb => by rw [List.mem_singleton.1 hb]; exact grK_lt h k a ha⟩
    · exact grK_pw h k
theorem grK_len (h : List Card) : ∀ k, (grK h k).length ≤ k
  | 0 => Nat.le_refl _
  | k + 1 => by
    have := grK_len h k
    unfold grK
    split
    · rw [List.length_append, List.length_singleton]; omega
    · omega
theorem ix_hand {h : List Card} (H : HandL h) {I : List Nat} (hp : I.Pairwise (· < ·)) (hb : ∀ i ∈ I, i < h.length) : HandL (I.map (gz h)) := by
  have hc : AllC (I.map (gz h)) := fun c hc => by
    obtain ⟨i, hi, rfl⟩ := List.mem_map.1 hc
    exact gl_C H.c (hb i hi)
  have hnd : (I.map (gz h)).Nodup := by
    unfold List.Nodup
    rw [List.pairwise_map]
    exact List.Pairwise.imp_of_mem (fun {a b} ha hb' hlt e => by have := gz_inj H (hb a ha) (hb b hb') e; omega) hp
  exact ⟨hc, hnd, by have := nodup_len81 hnd hc; omega⟩
theorem s_l3Picked_eq {n : Nat} (hn : BIG ≤ n) (h : List Card) {I : List Nat} (hb : ∀ i ∈ I, i < h.length) (hl : I.length ≤ 1000000) : s_l3Picked n h (I.map fun (i : Nat) => (i : Int)) = some (I.map (gz h)) := by
  unfold s_l3Picked
  have := fx_app (B := s_l3Picked_L1 n) I.length (fun i a => (h, I.map (fun (i : Nat) => (i : Int)), (i : Int), a)) (fun k => [gz h (gl 0 I k)]) some 1000000 (fun self i a hi hM => by
    simp only [s_l3Picked_L1, lt_eq, List.length_map]
    have e : gl (0 : Int) (I.map fun (i : Nat) => (i : Int)) i = (I[i] : Int) := by rw [gl_eq (by rw [List.length_map]; exact hi), List.getElem_map]
    have e2 : gl 0 I i = I[i] := gl_eq hi
    simp only [List.length_singleton] at hM
    rw [br_pos (decide_eq_true (show (i : Int) < (I.length : Int) by omega)), ckb_pos (inb_ok hi), toNat_cast, e, ckb_pos (inb_ok (hb _ (List.getElem_mem hi))), ckb_pos (apok_ok (by omega) (by omega)), w64_succ (by omega), toNat_cast, e2]) (fun self a => by
    simp only [s_l3Picked_L1, List.length_map]
    rw [br_neg (decide_eq_false (by omega))]) n 0 [] (Nat.zero_le _) (big_gt hn (by omega)) (by
      have := flen (l := List.range' 0 (I.length - 0)) (f := fun k => [gz h (gl 0 I k)]) (M := 1) fun _ _ => Nat.le_refl _
      rw [List.length_range'] at this
      simp only [List.length_nil]; omega)
  rw [List.nil_append] at this
  refine this.trans ?_
  congr 1
  rw [← List.map_eq_flatMap]
  refine List.ext_getElem (by simp) fun i h1 h2 => ?_
  rw [List.length_map, List.length_range'] at h1
  rw [List.getElem_map, List.getElem_map, List.getElem_range']
  rw [gl_eq (by omega)]
  simp
def GC (h : List Card) : Bool × List Int := if hand h then (true, (grK h h.length).map fun (i : Nat) => (i : Int)) else (false, [])
theorem s_GreedyCap_eq {n : Nat} (hn : BIG ≤ n) {h : List Card} (hl : h.length ≤ 1048576) : s_GreedyCap n h = some (GC h) := by
  unfold s_GreedyCap GC
  rw [s_l2Hand_eq hn (by omega), ob_some]
  cases hh : hand h with
  | false => rfl
  | true =>
    have H := HandL.of hh
    have h27 := hand_len hh
    show fx _ _ _ = _
    have := fx_cnt (B := s_GreedyCap_L1 n) h.length (fun k => (h, (k : Int), (grK h k).map fun (i : Nat) => (i : Int))) (fun _ => True) (fun _ => some (true, (grK h h.length).map fun (i : Nat) => (i : Int))) (fun self k hk _ ih => by
      have hb : ∀ i ∈ grK h k, i < h.length := fun i hi => by have := grK_lt h k i hi; omega
      have hgl := grK_len h k
      simp only [s_GreedyCap_L1, lt_eq]
      by_cases hk2 : k < h.length
      · rw [br_pos (decide_eq_true (show (k : Int) < (h.length : Int) by omega)), s_l3Picked_eq hn h hb (by omega), ob_some, ckb_pos (inb_ok hk2), toNat_cast, s_l2Through_eq hn (ix_hand H (grK_pw h k) hb), ob_some, w64_succ (by omega), ← ih hk2 trivial]
        rw [grK]
        by_cases h0 : thr ((grK h k).map (gz h)) (gz h k) = 0
        · have e : decide (((thr ((grK h k).map (gz h)) (gl ⟨0, 0, 0, 0⟩ h k) : Nat) : Int) = 0) = true := by
            have : thr ((grK h k).map (gz h)) (gl ⟨0, 0, 0, 0⟩ h k) = 0 := h0
            rw [this]; rfl
          rw [e, br_true, if_pos h0, List.length_map, ckb_pos (apok_ok (by omega) (by omega)), List.map_append, List.map_singleton]
        · have e : decide (((thr ((grK h k).map (gz h)) (gl ⟨0, 0, 0, 0⟩ h k) : Nat) : Int) = 0) = false := by
            have : 0 < thr ((grK h k).map (gz h)) (gl ⟨0, 0, 0, 0⟩ h k) := Nat.pos_of_ne_zero h0
            exact decide_eq_false (by omega)
          rw [e, br_false, if_neg h0]
      · have : k = h.length := by omega
        subst this
        rw [br_neg (decide_eq_false (by omega))]) n 0 (Nat.zero_le _) trivial (big_gt hn (by omega))
    exact this
theorem i_GreedyCap_eq {n : Nat} (hn : BIG ≤ n) {h : List Card} (hl : h.length ≤ 1048576) : i_GreedyCap n h = some (GC h) := by
  unfold i_GreedyCap GC
  rw [i_IsHand_eq hn (by omega), ob_some]
  cases hh : hand h with
  | false => rfl
  | true =>
    have H := HandL.of hh
    have h27 := hand_len hh
    show fx _ _ _ = _
    have := fx_cnt (B := i_GreedyCap_L1 n) h.length (fun k => (h, (h.length : Int), (k : Int), (grK h k).map (fun (i : Nat) => (i : Int)), (grK h k).map (gz h))) (fun _ => True) (fun _ => some (true, (grK h h.length).map fun (i : Nat) => (i : Int))) (fun self k hk _ ih => by
      have hb : ∀ i ∈ grK h k, i < h.length := fun i hi => by have := grK_lt h k i hi; omega
      have hgl := grK_len h k
      simp only [i_GreedyCap_L1, lt_eq]
      by_cases hk2 : k < h.length
      · rw [br_pos (decide_eq_true (show (k : Int) < (h.length : Int) by omega)), ckb_pos (inb_ok hk2), toNat_cast, i_isBlocked_eq hn (ix_hand H (grK_pw h k) hb), ob_some, w64_succ (by omega), ← ih hk2 trivial]
        rw [grK]
        by_cases h0 : thr ((grK h k).map (gz h)) (gz h k) = 0
        · have e : (!decide (0 < thr ((grK h k).map (gz h)) (gl ⟨0, 0, 0, 0⟩ h k))) = true := by
            have : thr ((grK h k).map (gz h)) (gl ⟨0, 0, 0, 0⟩ h k) = 0 := h0
            rw [this]; rfl
          rw [e, br_true, if_pos h0, List.length_map, List.length_map, ckb_pos (apok_ok (by omega) (by omega)), ckb_pos (apok_ok (by omega) (by omega)), List.map_append, List.map_append, List.map_singleton, List.map_singleton]
        · have e : (!decide (0 < thr ((grK h k).map (gz h)) (gl ⟨0, 0, 0, 0⟩ h k))) = false := by
            have : 0 < thr ((grK h k).map (gz h)) (gl ⟨0, 0, 0, 0⟩ h k) := Nat.pos_of_ne_zero h0
            rw [decide_eq_true this]; rfl
          rw [e, br_false, if_neg h0]
      · have : k = h.length := by omega
        subst this
        rw [br_neg (decide_eq_false (by omega))]) n 0 (Nat.zero_le _) trivial (big_gt hn (by omega))
    exact this

/-! drawn caps -/
theorem FC_len (h : List Card) : (FC h).2.length ≤ 81 := by
  by_cases hh : (hand h && capB h) = true
  · have e : FC h = (true, fillD h) := by unfold FC; rw [if_pos hh]
    rw [e]
    rw [Bool.and_eq_true] at hh
    have D := fillD_ok (HandL.of hh.1) ((capB_iff (HandL.of hh.1)).1 hh.2)
    generalize fillD h = d at D
    exact nodup_len81 D.ss.nodup D.c
  · have e : FC h = (false, []) := by unfold FC; rw [if_neg hh]
    rw [e]; simp
theorem s_l2Drop_ok {n : Nat} {h : List Card} (hl : h.length ≤ 1000) {i : Int} (h0 : 0 ≤ i) (h1 : i < h.length) : s_l2Drop n h i = some (h.take i.toNat ++ h.drop (i.toNat + 1)) := by
  obtain ⟨k, rfl⟩ : ∃ k : Nat, i = k := ⟨i.toNat, by omega⟩
  unfold s_l2Drop
  have e1 : sub h 0 k = h.take k := by unfold sub; simp
  have e2 : sub h (k + 1) h.length = h.drop (k + 1) := by unfold sub; rw [List.take_of_length_le (by simp)]
  rw [toNat_cast, ckb_pos (slb_ok (by omega) (by omega) (by omega)), e1, s_l2Own_eq (by rw [List.length_take]; omega), ob_some, lt_eq, w64_succ (by omega), ckb_pos (slb_ok (by omega) (by omega) (by omega)), toNat_cast, e2,
    ckb_pos (apok_ok (by rw [List.length_take, List.length_drop]; omega) (by rw [List.length_take, List.length_drop]; omega))]
def CapR (m : Nat) (o : Opt (Cu × List Card)) : Prop := ∃ c' h, o = some (c', h) ∧ h.length ≤ 81 ∧ CuOK m c'
theorem cap3_J1 {n : Nat} (hn : BIG ≤ n) {m : Nat} {c : Cu} (hc : CuOK m c) (hm : m < 4611686018427300000) {h : List Card} (hl : h.length ≤ 29) (b : Bool) (hb : b = false → hand h = true) : CapR (m + 20) (s_Cur_cap3'p_J1 n (b, c, h)) := by
  unfold s_Cur_cap3'p_J1
  cases b with
  | true => exact ⟨c, h, rfl, by omega, hc.mono (by omega)⟩
  | false =>
    have hh := hb rfl
    have e : (GC h).2 = (grK h h.length).map fun (i : Nat) => (i : Int) := by unfold GC; rw [hh]; rfl
    have hgl := grK_len h h.length
    simp only [br_false]
    rw [s_GreedyCap_eq hn (by omega), ob_some, e, s_l3Picked_eq hn h (grK_lt h h.length) (by omega), ob_some]
    obtain ⟨x, c1, e1, k1⟩ := one_ok n hc (by omega) (a := 4) (by omega)
    rw [e1, ob_some]
    have hpl : ((grK h h.length).map (gz h)).length ≤ 29 := by rw [List.length_map]; omega
    cases x with
    | false => exact ⟨_, _, rfl, by omega, k1.mono (by omega)⟩
    | true =>
      simp only [br_true]
      have hfl := FC_len ((grK h h.length).map (gz h))
      rw [s_FillCap_eq hn (by omega), ob_some]
      obtain ⟨y, c2, e2, k2⟩ := one_ok n k1 (by omega) (a := 2) (by omega)
      rw [e2, ob_some]
      generalize (FC ((grK h h.length).map (gz h))).2 = d at hfl
      cases y with
      | false => exact ⟨_, _, rfl, hfl, k2.mono (by omega)⟩
      | true =>
        simp only [br_true, ob_some]
        rw [br_dec]
        split
        · obtain ⟨i, c3, e3, k3, i0, i1⟩ := pick_ok n k2 (by omega) (a := (d.length : Int)) (by omega)
          rw [e3, ob_some, s_l2Drop_ok (by omega) i0 i1, ob_some]
          exact ⟨_, _, rfl, by rw [List.length_append, List.length_take, List.length_drop]; omega, k3.mono (by omega)⟩
        · exact ⟨_, _, rfl, hfl, k2.mono (by omega)⟩
theorem cap3_ok {n : Nat} (hn : BIG ≤ n) {m : Nat} {c : Cu} (hc : CuOK m c) (hm : m + 300 < 4611686018427300000) : CapR (m + 300) (s_Cur_cap3'p n c) := by
  unfold s_Cur_cap3'p
  obtain ⟨c1, h, e1, hl, k1⟩ := hand_ok hn hc (by omega)
  rw [e1, ob_some]
  simp only []
  rw [s_l2Hand_eq hn (by omega), ob_some]
  cases hh : hand h with
  | false =>
    rw [Bool.not_false, br_true]
    obtain ⟨c', h', e, hl', k⟩ := cap3_J1 hn k1 (by omega) hl true (fun e => by cases e)
    exact ⟨c', h', e, hl', k.mono (by omega)⟩
  | true =>
    rw [Bool.not_true, br_false]
    obtain ⟨x, c2, e2, k2⟩ := one_ok n k1 (by omega) (a := 4) (by omega)
    rw [e2, ob_some]
    obtain ⟨c', h', e, hl', k⟩ := cap3_J1 hn k2 (by omega) hl x (fun _ => hh)
    exact ⟨c', h', e, hl', k.mono (by omega)⟩
theorem cardOf_J1 {n : Nat} {m : Nat} {c : Cu} (hc : CuOK m c) (hm : m < 4611686018427300000) {h : List Card} (b : Bool) (hb : b = true → 0 < h.length) (z : Card) : ∃ r c', s_Cur_cardOf'pl_J1 n (h, b, c, z) = some (r, c') ∧ CuOK (m + 8) c' := by
  unfold s_Cur_cardOf'pl_J1
  cases b with
  | true =>
    have := hb rfl
    simp only [br_true]
    obtain ⟨i, c1, e1, k1, i0, i1⟩ := pick_ok n hc (by omega) (a := (h.length : Int)) (by omega)
    rw [e1, ob_some, ckb_pos (inb_pos i0 i1)]
    exact ⟨_, _, rfl, k1.mono (by omega)⟩
  | false =>
    obtain ⟨r, c1, e1, k1⟩ := card_ok n hc (by omega)
    simp only [br_false]
    rw [e1, ob_some]
    exact ⟨_, _, rfl, k1⟩
theorem cardOf_ok {n : Nat} {m : Nat} {c : Cu} (hc : CuOK m c) (hm : m + 10 < 4611686018427300000) (h : List Card) : ∃ r c', s_Cur_cardOf'pl n h c = some (r, c') ∧ CuOK (m + 10) c' := by
  unfold s_Cur_cardOf'pl
  rw [br_dec]
  split
  · obtain ⟨x, c1, e1, k1⟩ := one_ok n hc (by omega) (a := 3) (by omega)
    rw [e1, ob_some]
    obtain ⟨r, c2, e, k⟩ := cardOf_J1 (n := n) k1 (by omega) (h := h) (!x) (fun _ => by omega) ⟨0, 0, 0, 0⟩
    exact ⟨r, c2, e, k⟩
  · obtain ⟨r, c2, e, k⟩ := cardOf_J1 (n := n) hc (by omega) (h := h) false (fun h => by cases h) ⟨0, 0, 0, 0⟩
    exact ⟨r, c2, e, k.mono (by omega)⟩
end Go.Pl
namespace Go.Pl
open Go Go.Tv Go.RowKit
set_option linter.unusedVariables false

/-! lines of a list, by their places -/
def z4 : Card := ⟨0, 0, 0, 0⟩
def lnAt (s : List Card) (i j k : Nat) : Bool := lineB (gl z4 s i) (gl z4 s j) (gl z4 s k)
def l1 (s : List Card) (i j k : Nat) : List (V3 Int) := if lnAt s i j k = true then [⟨i, j, k⟩] else []
def l2 (s : List Card) (i j : Nat) : List (V3 Int) := (List.range' (j + 1) (s.length - (j + 1))).flatMap (l1 s i j)
def l3 (s : List Card) (i : Nat) : List (V3 Int) := (List.range' (i + 1) (s.length - (i + 1))).flatMap (l2 s i)
def lns (s : List Card) : List (V3 Int) := (List.range' 0 (s.length - 0)).flatMap (l3 s)

theorem l1_len {s : List Card} {i j k : Nat} : (l1 s i j k).length ≤ 1 := by unfold l1; split <;> simp
theorem l2_len {s : List Card} {i j : Nat} : (l2 s i j).length ≤ s.length := by
  have := flen (l := List.range' (j + 1) (s.length - (j + 1))) (f := l1 s i j) (M := 1) fun _ _ => l1_len
  rw [List.length_range', Nat.mul_one] at this
  unfold l2; omega
theorem l3_len {s : List Card} {i : Nat} : (l3 s i).length ≤ s.length * s.length := by
  have := flen (l := List.range' (i + 1) (s.length - (i + 1))) (f := l2 s i) (M := s.length) fun _ _ => l2_len
  unfold l3
  refine Nat.le_trans this (Nat.mul_le_mul_right _ ?_)
  rw [List.length_range']; omega
theorem lns_len {s : List Card} : (lns s).length ≤ s.length * (s.length * s.length) := by
  have := flen (l := List.range' 0 (s.length - 0)) (f := l3 s) (M := s.length * s.length) fun _ _ => l3_len
  rw [List.length_range', Nat.sub_zero] at this
  unfold lns; exact this

theorem gl_isC {s : List Card} (hs : ∀ c, c ∈ s → isC c = true) {i : Nat} (h : i < s.length) : isC (gl z4 s i) = true := by
  rw [gl_eq h]; exact hs _ (List.getElem_mem h)

theorem s_l4Lines_eq {n : Nat} (hn : BIG ≤ n) {s : List Card} (hl : s.length ≤ 81) (hs : ∀ c, c ∈ s → isC c = true) : s_l4Lines n s = some (lns s) := by
  unfold s_l4Lines
  have b3 : s.length * (s.length * s.length) ≤ 81 * (81 * 81) := Nat.mul_le_mul hl (Nat.mul_le_mul hl hl)
  have h3 := lns_len (s := s)
  have e : ∀ i : Nat, i < s.length → decide ((i : Int) < (s.length : Int)) = true := fun i h => decide_eq_true (by omega)
  have e' : decide ((s.length : Int) < (s.length : Int)) = false := decide_eq_false (by omega)
  have := fx_app (B := s_l4Lines_L3 n) s.length (fun i a => (s, (i : Int), a)) (l3 s) some 1000000 (fun self i a hi hM => ?_) (fun self a => by simp only [s_l4Lines_L3, e', br_false]) n 0 [] (Nat.zero_le _) (big_gt hn (by omega)) (by unfold lns at h3; simp only [List.length_nil]; omega)
  · simpa [lns] using this
  · simp only [s_l4Lines_L3, e i hi, br_true, lt_eq]
    rw [w64_succ (by omega)]
    have := fx_app (B := s_l4Lines_L2 n self) s.length (fun j a => (s, (i : Int), (j : Int), a)) (l2 s i) (fun a => self (s, ((i + 1 : Nat) : Int), a)) 1000000 (fun self2 j a hj hM2 => ?_) (fun self2 a => by
      simp only [s_l4Lines_L2, e', br_false, lt_eq]; rw [w64_succ (by omega)]) n (i + 1) a (by omega) (big_gt hn (by omega)) (by unfold l3 at hM; exact hM)
    · exact this
    · simp only [s_l4Lines_L2, e j hj, br_true, lt_eq]
      rw [w64_succ (by omega)]
      have := fx_app (B := s_l4Lines_L1 n self2) s.length (fun k a => (s, (i : Int), (j : Int), (k : Int), a)) (l1 s i j) (fun a => self2 (s, (i : Int), ((j + 1 : Nat) : Int), a)) 1000000 (fun self3 k a hk hM3 => ?_) (fun self3 a => by
        simp only [s_l4Lines_L1, e', br_false, lt_eq]; rw [w64_succ (by omega)]) n (j + 1) a (by omega) (big_gt hn (by omega)) (by unfold l2 at hM2; exact hM2)
      · exact this
      · simp only [s_l4Lines_L1, e k hk, br_true, inb_ok hi, inb_ok hj, inb_ok hk, ckb_true, toNat_cast, lt_eq]
        have hln := s_l2Line_eq hn (gl z4 s k) (gl_isC hs hi) (gl_isC hs hj)
        unfold z4 at hln
        rw [hln, w64_succ (by omega)]
        have e5 : lineB (gl z4 s i) (gl z4 s j) (gl z4 s k) = lnAt s i j k := rfl
        unfold z4 at e5
        simp only [ob_some, e5]
        unfold l1 at hM3 ⊢
        cases hb : lnAt s i j k with
        | false => simp
        | true =>
          rw [hb] at hM3
          simp only [if_true, List.length_singleton] at hM3
          simp only [br_true, if_true]
          rw [apok_ok (by omega) (by omega)]; rfl

/-! the same, by choices -/

/-- in a list without doubles, the lines are those of the third cards -/
theorem flatMap_one {α : Type} (f : Nat → α) (q : Nat) : ∀ (m a : Nat), (List.range' a m).flatMap (fun k => if k = q then [f k] else []) = if a ≤ q ∧ q < a + m then [f q] else []
  | 0, a => by rw [if_neg (by omega)]; rfl
  | m + 1, a => by
    rw [List.range'_succ, List.flatMap_cons, flatMap_one f q m (a + 1)]
    by_cases h : a = q
    · rw [if_pos h, if_neg (by omega), if_pos (by omega), h]; rfl
    · rw [if_neg h, List.nil_append]
      by_cases h2 : a ≤ q ∧ q < a + (m + 1)
      · rw [if_pos h2, if_pos (by omega)]
      · rw [if_neg h2, if_neg (by omega)]
theorem l2_ln1 {h : List Card} (hnd : h.Nodup) {i j : Nat} (hij : i < j) (hj : j < h.length) : l2 h i j = ln1 h i j := by
  have hi : i < h.length := by omega
  have hne : gl z4 h i ≠ gl z4 h j := by
    rw [gl_eq hi, gl_eq hj]
    exact fun e => absurd ((List.getElem_inj hnd).1 e) (by omega)
  unfold l2 ln1
  show _ = if (j : Int) < place h (third (gl z4 h i) (gl z4 h j)) then _ else _
  by_cases hq : ∃ q : Nat, h[q]? = some (third (gl z4 h i) (gl z4 h j))
  · obtain ⟨q, hq⟩ := hq
    have hp := place_of hnd hq
    have hql : q < h.length := (List.getElem?_eq_some_iff.1 hq).1
    have hqe : gl z4 h q = third (gl z4 h i) (gl z4 h j) := by rw [gl_eq hql]; exact (List.getElem?_eq_some_iff.1 hq).2
    have e : ∀ k, k ∈ List.range' (j + 1) (h.length - (j + 1)) → l1 h i j k = if k = q then [(⟨i, j, k⟩ : V3 Int)] else [] := fun k hk => by
      rw [List.mem_range'_1] at hk
      have hkl : k < h.length := by omega
      unfold l1 lnAt lineB
      by_cases hkq : k = q
      · subst hkq; simp [hne, hqe]
      · have : third (gl z4 h i) (gl z4 h j) ≠ gl z4 h k := by
          rw [← hqe, gl_eq hql, gl_eq hkl]
          exact fun e => hkq ((List.getElem_inj hnd).1 e).symm
        simp [hkq, this]
    rw [flatMap_congr' e, flatMap_one, hp]
    by_cases h2 : j < q
    · rw [if_pos (by omega), if_pos (by omega)]
      show _ = [(⟨(i : Int), (j : Int), place h (third (gl z4 h i) (gl z4 h j))⟩ : V3 Int)]
      rw [hp]
    · rw [if_neg (by omega), if_neg (by omega)]
  · have hp := place_none fun q hq2 => hq ⟨q, hq2⟩
    rw [hp, if_neg (by omega)]
    rw [List.flatMap_eq_nil_iff]
    intro k hk
    rw [List.mem_range'_1] at hk
    have hkl : k < h.length := by omega
    unfold l1 lnAt lineB
    have : third (gl z4 h i) (gl z4 h j) ≠ gl z4 h k := by
      rw [gl_eq (d := z4) hkl]
      exact fun e => hq ⟨k, by rw [List.getElem?_eq_getElem hkl, ← e]⟩
    simp [this]
theorem lns_eq {h : List Card} (hnd : h.Nodup) : lns h = linesOf h := by
  unfold lns linesOf
  refine flatMap_congr' fun i hi => ?_
  unfold l3 ln2
  refine flatMap_congr' fun j hj => ?_
  rw [List.mem_range'_1] at hi hj
  exact l2_ln1 hnd (by omega) (by omega)
end Go.Pl
namespace Go.Pl
open Go Go.Tv Go.RowKit
set_option linter.unusedVariables false

/-! moves of a deal -/
def layD (p : List Card) (d : Deal) (k : Int) : Deal := (d.1, (if 81 < d.2.1 + k then 81 else d.2.1 + k), d.2.2 ++ sub p d.2.1.toNat (if 81 < d.2.1 + k then 81 else d.2.1 + k).toNat)
theorem s_l2Own_le {n : Nat} {h : List Card} (hl : h.length ≤ 1048576) : s_l2Own n h = some h := s_l2Own_eq hl
theorem sub_len {α : Type} (l : List α) (a b : Nat) : (sub l a b).length ≤ b - a := by unfold sub; rw [List.length_take]; omega
theorem s_l4Lay_eq {n : Nat} {p : List Card} {d : Deal} (hp : s_l4Pile n d.1 = some p) (h81 : p.length = 81) (hl : 0 ≤ d.2.1 ∧ d.2.1 ≤ 81) (hlen : d.2.2.length ≤ 81) {k : Int} (hk : 0 ≤ k ∧ k ≤ 81) :
    s_l4Lay n d k = some (layD p d k) := by
  unfold s_l4Lay layD
  rw [hp, ob_some, lt_eq, w64_id (by omega)]
  unfold s_l1Least
  rw [br_some, ob_some, s_l2Own_eq (by omega), ob_some]
  have e : (if decide ((81 : Int) < d.2.1 + k) = true then (81 : Int) else d.2.1 + k) = if 81 < d.2.1 + k then 81 else d.2.1 + k := by by_cases h : (81 : Int) < d.2.1 + k <;> simp [h]
  rw [e]
  generalize hr : (if 81 < d.2.1 + k then (81 : Int) else d.2.1 + k) = r
  have hr2 : d.2.1 ≤ r ∧ r ≤ 81 := by split at hr <;> omega
  have e2 : d.2.1.toNat + (w64 (r - d.2.1)).toNat = r.toNat := by rw [w64_id (by omega)]; omega
  rw [e2, ckb_pos (slb_ok (by omega) (by omega) (by omega))]
  have := sub_len p d.2.1.toNat r.toNat
  rw [ckb_pos (apok_ok (by omega) (by omega))]
theorem grow_eq (n : Nat) {k : Nat} (h : k ≤ 100000) : slices_Grow_SA4_A4_ n (k : Int) = some [] := by
  unfold slices_Grow_SA4_A4_
  simp only [lt_eq]
  rw [show decide ((k : Int) < 0) = false from decide_eq_false (by omega), br_false, show w64 (0 - 0) = 0 by decide, Int.sub_zero, w64_id (by omega)]
  by_cases h : (0 : Int) < (k : Int)
  · rw [decide_eq_true h, br_true, toNat_cast, List.length_replicate]
    have : cand (nneg (k : Int)) (apok 32 k) = true := by
      rw [apok_ok (by omega) (by omega)]
      unfold nneg
      rw [decide_eq_true (by omega)]; rfl
    rw [ckb_pos this, ckb_pos (slb_ok (by omega) (by omega) (by omega))]
    unfold sub; simp
  · rw [decide_eq_false h, br_false]
theorem concat2_step (n : Nat) (go : (List (List Card)) × Int × (List (List Card)) × Int × Int → Option (List Card)) (ls : List (List Card)) {k t : Nat} (hk : k < ls.length) (hl : ls.length ≤ 100) (ht : t + ls[k].length ≤ 100000) :
    slices_Concat_SA4_A4__L2 n go (ls, (t : Int), ls, (ls.length : Int), (k : Int)) = go (ls, ((t + ls[k].length : Nat) : Int), ls, (ls.length : Int), ((k + 1 : Nat) : Int)) := by
  unfold slices_Concat_SA4_A4__L2
  simp only [lt_eq]
  rw [show decide ((k : Int) < (ls.length : Int)) = true from decide_eq_true (by omega), br_true, ckb_pos (inb_ok hk), toNat_cast, gl_eq hk, w64_id (x := (t : Int) + (ls[k].length : Int)) (by omega), show decide ((t : Int) + (ls[k].length : Int) < 0) = false from decide_eq_false (by omega), br_false, w64_succ (by omega)]
  rfl
theorem concat2_end (n : Nat) (go : (List (List Card)) × Int × (List (List Card)) × Int × Int → Option (List Card)) (ls : List (List Card)) {t : Nat} (ht : t ≤ 100000) :
    slices_Concat_SA4_A4__L2 n go (ls, (t : Int), ls, (ls.length : Int), (ls.length : Int)) = fx (slices_Concat_SA4_A4__L1 n) n (ls, (ls.length : Int), ((0 : Nat) : Int), []) := by
  unfold slices_Concat_SA4_A4__L2
  simp only []
  rw [show decide ((ls.length : Int) < (ls.length : Int)) = false from decide_eq_false (by omega), br_false, grow_eq n ht, ob_some]
  rfl
theorem concat1_step (n : Nat) (go : (List (List Card)) × Int × Int × List Card → Option (List Card)) (ls : List (List Card)) {k : Nat} (a : List Card) (hk : k < ls.length) (hl : ls.length ≤ 100) (ht : a.length + ls[k].length ≤ 100000) :
    slices_Concat_SA4_A4__L1 n go (ls, (ls.length : Int), (k : Int), a) = go (ls, (ls.length : Int), ((k + 1 : Nat) : Int), a ++ ls[k]) := by
  unfold slices_Concat_SA4_A4__L1
  simp only [lt_eq]
  rw [show decide ((k : Int) < (ls.length : Int)) = true from decide_eq_true (by omega), br_true, ckb_pos (inb_ok hk), toNat_cast, gl_eq hk, ckb_pos (apok_ok (by omega) (by omega)), w64_succ (by omega)]
theorem concat1_end (n : Nat) (go : (List (List Card)) × Int × Int × List Card → Option (List Card)) (ls : List (List Card)) (a : List Card) :
    slices_Concat_SA4_A4__L1 n go (ls, (ls.length : Int), (ls.length : Int), a) = some a := by
  unfold slices_Concat_SA4_A4__L1
  simp only []
  rw [show decide ((ls.length : Int) < (ls.length : Int)) = false from decide_eq_false (by omega), br_false]
theorem slices_Concat2 {n : Nat} (hn : BIG ≤ n) {a b : List Card} (ha : a.length ≤ 1000) (hb : b.length ≤ 1000) : slices_Concat_SA4_A4_ n [a, b] = some (a ++ b) := by
  obtain ⟨m, rfl⟩ : ∃ m, n = m + 5 := ⟨n - 5, by unfold BIG at hn; omega⟩
  unfold slices_Concat_SA4_A4_
  have e1 := concat2_step (m + 5) (fx (slices_Concat_SA4_A4__L2 (m + 5)) (m + 4)) [a, b] (k := 0) (t := 0) (by show 0 < 2; omega) (by show 2 ≤ 100; omega) (by show 0 + a.length ≤ 100000; omega)
  have e2 := concat2_step (m + 5) (fx (slices_Concat_SA4_A4__L2 (m + 5)) (m + 3)) [a, b] (k := 1) (t := 0 + a.length) (by show 1 < 2; omega) (by show 2 ≤ 100; omega) (by show 0 + a.length + b.length ≤ 100000; omega)
  have e3 := concat2_end (m + 5) (fx (slices_Concat_SA4_A4__L2 (m + 5)) (m + 2)) [a, b] (t := 0 + a.length + b.length) (by omega)
  have e4 := concat1_step (m + 5) (fx (slices_Concat_SA4_A4__L1 (m + 5)) (m + 4)) [a, b] (k := 0) [] (by show 0 < 2; omega) (by show 2 ≤ 100; omega) (by show 0 + a.length ≤ 100000; omega)
  have e5 := concat1_step (m + 5) (fx (slices_Concat_SA4_A4__L1 (m + 5)) (m + 3)) [a, b] (k := 1) ([] ++ a) (by show 1 < 2; omega) (by show 2 ≤ 100; omega) (by show ([] ++ a).length + b.length ≤ 100000; rw [List.nil_append]; omega)
  have e6 := concat1_end (m + 5) (fx (slices_Concat_SA4_A4__L1 (m + 5)) (m + 2)) [a, b] ([] ++ a ++ b)
  refine Eq.trans (fx_succ _ _ _) (Eq.trans e1 (Eq.trans (fx_succ _ _ _) (Eq.trans e2 (Eq.trans (fx_succ _ _ _) (Eq.trans e3 ?_)))))
  refine Eq.trans (fx_succ _ _ _) (Eq.trans e4 (Eq.trans (fx_succ _ _ _) (Eq.trans e5 (Eq.trans (fx_succ _ _ _) e6))))
theorem i_lay_eq {n : Nat} (hn : BIG ≤ n) {p : List Card} {d : Deal} (hp : i_pile n d.1 = some p) (h81 : p.length = 81) (hl : 0 ≤ d.2.1 ∧ d.2.1 ≤ 81) (hlen : d.2.2.length ≤ 81) {k : Int} (hk : 0 ≤ k ∧ k ≤ 81) :
    _impl_Deal__lay n d k = some (layD p d k) := by
  unfold _impl_Deal__lay layD
  rw [hp]
  simp only [lt_eq, ob_some]
  rw [w64_id (x := 81 - d.2.1) (by omega)]
  have e : d.2.1 + mnI k (81 - d.2.1) = if 81 < d.2.1 + k then 81 else d.2.1 + k := by unfold mnI; split <;> split <;> omega
  rw [e]
  generalize hr : (if 81 < d.2.1 + k then (81 : Int) else d.2.1 + k) = r
  have hr2 : d.2.1 ≤ r ∧ r ≤ 81 := by split at hr <;> omega
  have e2 : d.2.1.toNat + (w64 (r - d.2.1)).toNat = r.toNat := by rw [w64_id (by omega)]; omega
  rw [w64_id (x := r) (by omega), e2, ckb_pos (slb_ok (by omega) (by omega) (by omega))]
  have := sub_len p d.2.1.toNat r.toNat
  rw [slices_Concat2 hn (by omega) (by omega), ob_some]
theorem sub_take {α : Type} (l : List α) {a b : Nat} (h : a ≤ b) : l.take a ++ sub l a b = l.take b := by
  unfold sub
  rw [← List.drop_take]
  have : l.take a = (l.take b).take a := by rw [List.take_take, Nat.min_eq_left h]
  rw [this, List.take_append_drop]
end Go.Pl
namespace Go.Pl
open Go Go.Tv Go.RowKit
set_option linter.unusedVariables false

/-! taking of lines; deals stay deals -/
theorem DealOK.len {p : List Card} {d : Deal} (h : DealOK p d) (hp : p.length = 81) : d.2.2.length ≤ 81 := by
  have := len_le h.nodup h.mem
  rw [List.length_take] at this; omega
theorem DealOK.isC {p : List Card} {d : Deal} (h : DealOK p d) (hp : p.Perm deck) : ∀ c, c ∈ d.2.2 → isC c = true := fun c hc => (pile_facts hp).2.2 c (List.mem_of_mem_take (h.mem c hc))
theorem layD_ok {p : List Card} {d : Deal} (h : DealOK p d) (hp : p.Perm deck) {k : Int} (hk : 0 ≤ k) : DealOK p (layD p d k) := by
  obtain ⟨h81, hnd, _⟩ := pile_facts hp
  have hl := h.laid
  unfold layD
  generalize hr : (if 81 < d.2.1 + k then (81 : Int) else d.2.1 + k) = r
  have hr2 : d.2.1 ≤ r ∧ r ≤ 81 := by split at hr <;> omega
  have hab : d.2.1.toNat ≤ r.toNat := by omega
  have hsub : ∀ c, c ∈ sub p d.2.1.toNat r.toNat → c ∈ p.drop d.2.1.toNat := fun c hc => by unfold sub at hc; exact List.mem_of_mem_take hc
  refine ⟨h.seed, by show 0 ≤ r ∧ r ≤ 81; omega, ?_, ?_⟩
  · show (d.2.2 ++ sub p d.2.1.toNat r.toNat).Nodup
    rw [List.nodup_append]
    have hd : (p.take d.2.1.toNat ++ p.drop d.2.1.toNat).Nodup := by rw [List.take_append_drop]; exact hnd
    rw [List.nodup_append] at hd
    refine ⟨h.nodup, ?_, fun a ha b hb => hd.2.2 a (h.mem a ha) b (hsub b hb)⟩
    unfold sub
    exact (hd.2.1).sublist (List.take_sublist _ _)
  · show ∀ c, c ∈ d.2.2 ++ sub p d.2.1.toNat r.toNat → c ∈ p.take r.toNat
    intro c hc
    rw [← sub_take p hab]
    rcases List.mem_append.1 hc with hc | hc
    · exact List.mem_append.2 (.inl (h.mem c hc))
    · exact List.mem_append.2 (.inr hc)

def inT (t : V3 Int) (k : Int) : Bool := (V3.els t).contains k
def rest1 (h : List Card) (t : V3 Int) (k : Nat) : List Card := if inT t k = true then [] else [gl ⟨0, 0, 0, 0⟩ h k]
def rest (h : List Card) (t : V3 Int) : List Card := (List.range' 0 (h.length - 0)).flatMap (rest1 h t)
theorem rest_sub (h : List Card) (t : V3 Int) : ∀ (m i : Nat), h.length - i = m → i ≤ h.length → ((List.range' i m).flatMap (rest1 h t)).Sublist (h.drop i)
  | 0, i, hm, hi => by simp
  | m + 1, i, hm, hi => by
    have hlt : i < h.length := by omega
    rw [List.range'_succ, List.flatMap_cons, List.drop_eq_getElem_cons hlt]
    have ih := rest_sub h t m (i + 1) (by omega) (by omega)
    unfold rest1
    split
    · exact ih.cons _
    · rw [gl_eq hlt]
      exact ih.cons_cons _
theorem rest_sublist (h : List Card) (t : V3 Int) : (rest h t).Sublist h := by
  have := rest_sub h t h.length 0 rfl (Nat.zero_le _)
  unfold rest
  simpa using this
def restD (d : Deal) (t : V3 Int) : Deal := (d.1, d.2.1, rest d.2.2 t)
theorem restD_ok {p : List Card} {d : Deal} (h : DealOK p d) (t : V3 Int) : DealOK p (restD d t) :=
  ⟨h.seed, h.laid, h.nodup.sublist (rest_sublist _ _), fun c hc => h.mem c ((rest_sublist _ _).mem hc)⟩
def takeD (p : List Card) (d : Deal) (t : V3 Int) : Deal := layD p (restD d t) (if (rest d.2.2 t).length < 12 then 12 - ((rest d.2.2 t).length : Int) else 0)
theorem takeD_ok {p : List Card} {d : Deal} (h : DealOK p d) (hp : p.Perm deck) (t : V3 Int) : DealOK p (takeD p d t) := layD_ok (restD_ok h t) hp (by split <;> omega)
theorem rest_len (h : List Card) (t : V3 Int) : (rest h t).length ≤ h.length := (rest_sublist h t).length_le
theorem s_l4Take_eq {n : Nat} (hn : BIG ≤ n) {p : List Card} {d : Deal} (hp : s_l4Pile n d.1 = some p) (hpp : p.Perm deck) (hd : DealOK p d) (t : V3 Int) : s_l4Take n d t = some (takeD p d t) := by
  obtain ⟨h81, _, _⟩ := pile_facts hpp
  have hl81 := hd.len h81
  have hrl := rest_len d.2.2 t
  unfold s_l4Take
  have := fx_app (B := s_l4Take_L1 n) d.2.2.length (fun i a => ((i : Int), d, t, (0 : Int), (0 : Int), d.1, d.2.1, a)) (rest1 d.2.2 t)
    (fun a => Tv.lt (w64 (12 - (a.length : Int))) fun x9 => ob (s_l1Most n 0 x9) fun r10 => ob (s_l4Lay n (d.1, (d.2.1, a)) r10) fun r11 => some (r11.1, r11.2.1, r11.2.2)) 1000 (fun self i a hi hM => ?_) (fun self a => ?_) n 0 [] (Nat.zero_le _) (big_gt hn (by omega)) (by unfold rest at hrl; simp only [List.length_nil]; omega)
  · refine Eq.trans this ?_
    rw [List.nil_append]
    show (Tv.lt (w64 (12 - ((rest d.2.2 t).length : Int))) fun x9 => ob (s_l1Most n 0 x9) fun r10 => ob (s_l4Lay n (d.1, (d.2.1, rest d.2.2 t)) r10) fun r11 => some (r11.1, r11.2.1, r11.2.2)) = _
    rw [lt_eq, w64_id (by omega)]
    unfold s_l1Most
    rw [br_some, ob_some]
    have e : (if decide ((12 : Int) - ((rest d.2.2 t).length : Int) < 0) = true then (0 : Int) else 12 - ((rest d.2.2 t).length : Int)) = if (rest d.2.2 t).length < 12 then 12 - ((rest d.2.2 t).length : Int) else 0 := by
      by_cases h : (12 : Int) - ((rest d.2.2 t).length : Int) < 0
      · rw [decide_eq_true h, if_pos rfl, if_neg (by omega)]
      · rw [decide_eq_false h, if_neg (by simp)]
        split <;> omega
    rw [e, s_l4Lay_eq (d := (d.1, (d.2.1, rest d.2.2 t))) hp h81 hd.laid (by show (rest d.2.2 t).length ≤ 81; omega) (by split <;> omega)]
    rfl
  · simp only [s_l4Take_L1, lt_eq]
    rw [show decide ((i : Int) < (d.2.2.length : Int)) = true from decide_eq_true (by omega), br_true, br_some, ob_some, br_some, ob_some]
    have e : (if (if (!decide ((i : Int) = t.x0)) = true then !decide ((i : Int) = t.x1) else false) = true then !decide ((i : Int) = t.x2) else false) = !inT t i := by
      unfold inT V3.els
      simp only [List.contains_cons, List.contains_nil, Bool.or_false]
      by_cases h0 : (i : Int) = t.x0 <;> by_cases h1 : (i : Int) = t.x1 <;> by_cases h2 : (i : Int) = t.x2 <;> simp [h0, h1, h2]
    rw [e]
    unfold rest1 at hM ⊢
    cases hq : inT t (i : Int) with
    | true => simp only [Bool.not_true, br_false, if_true, List.append_nil]; rw [w64_succ (by omega)]
    | false =>
      rw [hq] at hM
      simp only [Bool.false_eq_true, if_false, List.length_singleton] at hM
      simp only [Bool.not_false, br_true, Bool.false_eq_true, if_false]
      rw [ckb_pos (inb_ok hi), ckb_pos (apok_ok (by omega) (by omega)), w64_succ (by omega), toNat_cast]
  · simp only [s_l4Take_L1]
    rw [show decide ((d.2.2.length : Int) < (d.2.2.length : Int)) = false from decide_eq_false (by omega), br_false]
theorem i_take_eq {n : Nat} (hn : BIG ≤ n) {p : List Card} {d : Deal} (hp : i_pile n d.1 = some p) (hpp : p.Perm deck) (hd : DealOK p d) (t : V3 Int) : _impl_Deal__take n d t = some (takeD p d t) := by
  obtain ⟨h81, _, _⟩ := pile_facts hpp
  have hl81 := hd.len h81
  have hrl := rest_len d.2.2 t
  unfold _impl_Deal__take
  have := fx_app (B := _impl_Deal__take_L1 n) d.2.2.length (fun i a => (d.2.2, (d.2.2.length : Int), (i : Int), d, t, (0 : Int), (0 : Int), a)) (rest1 d.2.2 t)
    (fun a => Tv.lt (w64 (12 - (a.length : Int))) fun x8 => ob (_impl_Deal__lay n (d.1, (d.2.1, a)) (mxI 0 x8)) fun r9 => some (r9.1, r9.2.1, r9.2.2)) 1000 (fun self i a hi hM => ?_) (fun self a => ?_) n 0 [] (Nat.zero_le _) (big_gt hn (by omega)) (by unfold rest at hrl; simp only [List.length_nil]; omega)
  · refine Eq.trans this ?_
    rw [List.nil_append]
    show (Tv.lt (w64 (12 - ((rest d.2.2 t).length : Int))) fun x8 => ob (_impl_Deal__lay n (d.1, (d.2.1, rest d.2.2 t)) (mxI 0 x8)) fun r9 => some (r9.1, r9.2.1, r9.2.2)) = _
    rw [lt_eq, w64_id (by omega)]
    have e : mxI 0 ((12 : Int) - ((rest d.2.2 t).length : Int)) = if (rest d.2.2 t).length < 12 then 12 - ((rest d.2.2 t).length : Int) else 0 := by
      unfold mxI; split <;> split <;> omega
    rw [e, i_lay_eq hn (d := (d.1, (d.2.1, rest d.2.2 t))) hp h81 hd.laid (by show (rest d.2.2 t).length ≤ 81; omega) (by split <;> omega)]
    rfl
  · simp only [_impl_Deal__take_L1, lt_eq]
    rw [show decide ((i : Int) < (d.2.2.length : Int)) = true from decide_eq_true (by omega), br_true, ckb_pos (inb_ok hi), slices_Contains_int_eq hn (by show 3 ≤ 9223372036854775807; omega), ob_some]
    unfold rest1 at hM ⊢
    show br (! inT t i) _ _ = _
    cases hq : inT t (i : Int) with
    | true => simp only [Bool.not_true, br_false, if_true, List.append_nil]; rw [w64_succ (by omega)]
    | false =>
      rw [hq] at hM
      simp only [Bool.false_eq_true, if_false, List.length_singleton] at hM
      simp only [Bool.not_false, br_true, Bool.false_eq_true, if_false]
      rw [ckb_pos (apok_ok (by omega) (by omega)), w64_succ (by omega), toNat_cast]
  · simp only [_impl_Deal__take_L1]
    rw [show decide ((d.2.2.length : Int) < (d.2.2.length : Int)) = false from decide_eq_false (by omega), br_false]
end Go.Pl
namespace Go.Pl
open Go Go.Tv Go.RowKit
set_option linter.unusedVariables false

/-! games: claims and what they make -/
abbrev Game := Deal × (List Int × List Int)
abbrev Claim := Int × V3 Int
/-- places of three cards, rising -/
def place3 (len : Nat) (t : V3 Int) : Bool := decide (0 ≤ t.x0) && decide (t.x0 < t.x1) && decide (t.x1 < t.x2) && decide (t.x2 < (len : Int))
theorem place3_iff {len : Nat} {t : V3 Int} : place3 len t = true ↔ 0 ≤ t.x0 ∧ t.x0 < t.x1 ∧ t.x1 < t.x2 ∧ t.x2 < (len : Int) := by
  unfold place3; simp only [Bool.and_eq_true, decide_eq_true_eq]; omega
def line3 (h : List Card) (t : V3 Int) : Bool := lineB (gl ⟨0, 0, 0, 0⟩ h t.x0.toNat) (gl ⟨0, 0, 0, 0⟩ h t.x1.toNat) (gl ⟨0, 0, 0, 0⟩ h t.x2.toNat)
theorem in_range {len : Nat} {x : Int} : decide (0 ≤ x ∧ x ≤ (len : Int) - 1) = decide (0 ≤ x ∧ x < (len : Int)) := by congr 1; apply propext; omega
/-- the check of places, in both loops -/
theorem chk3 {ρ : Type} (B : (Int → Opt ρ) → Int → Opt ρ) (len : Nat) (t : V3 Int) (bad good : Opt ρ)
    (h0 : ∀ go, B go 0 = if 0 ≤ t.x0 ∧ t.x0 < (len : Int) then go 1 else bad)
    (h1 : ∀ go, B go 1 = if (0 ≤ t.x1 ∧ t.x1 < (len : Int)) ∧ ¬ t.x1 ≤ t.x0 then go 2 else bad)
    (h2 : ∀ go, B go 2 = if (0 ≤ t.x2 ∧ t.x2 < (len : Int)) ∧ ¬ t.x2 ≤ t.x1 then go 3 else bad) (h3 : ∀ go, B go 3 = good) (m : Nat) : fx B (m + 4) 0 = if place3 len t = true then good else bad := by
  rw [fx_succ, h0, fx_succ, h1, fx_succ, h2, fx_succ, h3]
  by_cases a : place3 len t = true
  · rw [if_pos a]
    rw [place3_iff] at a
    rw [if_pos (by omega), if_pos (by omega), if_pos (by omega)]
  · rw [if_neg a]
    rw [place3_iff] at a
    split
    · split
      · split
        · omega
        · rfl
      · rfl
    · rfl

theorem fx_sec {σ τ ρ : Type} {B : (σ → Opt ρ) → σ → Opt ρ} {B' : (τ → Opt ρ) → τ → Opt ρ} (f : τ → σ) (h : ∀ go go', (∀ i, go (f i) = go' i) → ∀ i, B go (f i) = B' go' i) : ∀ k i, fx B k (f i) = fx B' k i
  | 0, _ => rfl
  | k + 1, i => by
    rw [fx_succ, fx_succ]
    exact h _ _ (fx_sec f h k) i
theorem s_l4Line_eq {n : Nat} (hn : BIG ≤ n) {d : Deal} (t : V3 Int) (hl : d.2.2.length ≤ 81) (hc : ∀ c, c ∈ d.2.2 → isC c = true) :
    s_l4Line n d t = some (place3 d.2.2.length t && line3 d.2.2 t) := by
  obtain ⟨m, rfl⟩ : ∃ m, n = m + 4 := ⟨n - 4, by unfold BIG at hn; omega⟩
  unfold s_l4Line
  have key : ∀ k (i : Int), fx (s_l4Line_L1 (m + 4)) k (i, d, t) = fx (fun go i => s_l4Line_L1 (m + 4) (fun s => go s.1) (i, d, t)) k i :=
    fx_sec (fun i => (i, d, t)) fun go go' hg i => by
      unfold s_l4Line_L1
      simp only [hg]
  rw [key]
  rw [chk3 (fun go i => s_l4Line_L1 (m + 4) (fun s => go s.1) (i, d, t)) d.2.2.length t (some false)
    (ckb (inb t.x0 d.2.2.length) (ckb (inb t.x1 d.2.2.length) (ckb (inb t.x2 d.2.2.length) (ob (s_l2Line (m + 4) (gl ⟨0, 0, 0, 0⟩ d.2.2 t.x0.toNat) (gl ⟨0, 0, 0, 0⟩ d.2.2 t.x1.toNat) (gl ⟨0, 0, 0, 0⟩ d.2.2 t.x2.toNat)) fun r => some r)))) ?_ ?_ ?_ ?_ m]
  · cases hp : place3 d.2.2.length t with
    | false => rfl
    | true =>
      rw [if_pos rfl]
      rw [place3_iff] at hp
      have q : ∀ x : Int, 0 ≤ x → x < (d.2.2.length : Int) → isC (gl ⟨0, 0, 0, 0⟩ d.2.2 x.toNat) = true := fun x h0 h1 => by
        have : x.toNat < d.2.2.length := by omega
        rw [gl_eq this]; exact hc _ (List.getElem_mem this)
      rw [ckb_pos (inb_pos (by omega) (by omega)), ckb_pos (inb_pos (by omega) (by omega)), ckb_pos (inb_pos (by omega) (by omega)), s_l2Line_eq hn _ (q _ (by omega) (by omega)) (q _ (by omega) (by omega)), ob_some]
      rfl
  · intro go
    simp only [s_l4Line_L1, lt_eq, s_l1In_eq, ob_some]
    rw [w64_id (x := (d.2.2.length : Int) - 1) (by omega)]
    show br (decide ((0 : Int) < 3)) (ckb (inb 0 3) (ob (br (! decide (0 ≤ t.x0 ∧ t.x0 ≤ (d.2.2.length : Int) - 1)) (some true) (ob (br (decide ((0 : Int) < 0)) (ckb _ (ckb _ _)) (some false)) fun x8 => some x8)) fun x9 => br x9 (some false) (go (w64 (0 + 1))))) _ = _
    rw [in_range]
    by_cases h : 0 ≤ t.x0 ∧ t.x0 < (d.2.2.length : Int)
    · rw [if_pos h, decide_eq_true h]; rfl
    · rw [if_neg h, decide_eq_false h]; rfl
  · intro go
    simp only [s_l4Line_L1, lt_eq, s_l1In_eq, ob_some]
    rw [w64_id (x := (d.2.2.length : Int) - 1) (by omega)]
    show br (decide ((1 : Int) < 3)) (ckb (inb 1 3) (ob (br (! decide (0 ≤ t.x1 ∧ t.x1 ≤ (d.2.2.length : Int) - 1)) (some true) (ob (br (decide ((0 : Int) < 1)) (ckb (inb (w64 (1 - 1)) 3) (ckb (inb 1 3) (some (decide (t.x1 ≤ t.x0))))) (some false)) fun x8 => some x8)) fun x9 => br x9 (some false) (go (w64 (1 + 1))))) _ = _
    rw [in_range]
    by_cases h : 0 ≤ t.x1 ∧ t.x1 < (d.2.2.length : Int)
    · rw [decide_eq_true h]
      by_cases h2 : t.x1 ≤ t.x0
      · rw [if_neg (by omega), decide_eq_true h2]; rfl
      · rw [if_pos ⟨h, h2⟩, decide_eq_false h2]; rfl
    · rw [if_neg (by omega), decide_eq_false h]; rfl
  · intro go
    simp only [s_l4Line_L1, lt_eq, s_l1In_eq, ob_some]
    rw [w64_id (x := (d.2.2.length : Int) - 1) (by omega)]
    show br (decide ((2 : Int) < 3)) (ckb (inb 2 3) (ob (br (! decide (0 ≤ t.x2 ∧ t.x2 ≤ (d.2.2.length : Int) - 1)) (some true) (ob (br (decide ((0 : Int) < 2)) (ckb (inb (w64 (2 - 1)) 3) (ckb (inb 2 3) (some (decide (t.x2 ≤ t.x1))))) (some false)) fun x8 => some x8)) fun x9 => br x9 (some false) (go (w64 (2 + 1))))) _ = _
    rw [in_range]
    by_cases h : 0 ≤ t.x2 ∧ t.x2 < (d.2.2.length : Int)
    · rw [decide_eq_true h]
      by_cases h2 : t.x2 ≤ t.x1
      · rw [if_neg (by omega), decide_eq_true h2]; rfl
      · rw [if_pos ⟨h, h2⟩, decide_eq_false h2]; rfl
    · rw [if_neg (by omega), decide_eq_false h]; rfl
  · intro go
    rfl

def kindG (g : Game) (c : Claim) : Int :=
  if 0 ≤ c.1 ∧ c.1 < (g.2.1.length : Int) then (if place3 g.1.2.2.length c.2 = true then (if line3 g.1.2.2 c.2 = true then 1 else 2) else 3) else 3
theorem s_l8Kind_eq {n : Nat} (hn : BIG ≤ n) {g : Game} (c : Claim) (hl : g.1.2.2.length ≤ 81) (hs : g.2.1.length ≤ 1000000) (hc : ∀ x, x ∈ g.1.2.2 → isC x = true) : s_l8Kind n g c = some (kindG g c) := by
  unfold s_l8Kind kindG
  simp only [lt_eq, s_l1In_eq, ob_some, s_l4Line_eq hn c.2 hl hc]
  rw [w64_id (by omega), in_range]
  by_cases h : 0 ≤ c.1 ∧ c.1 < (g.2.1.length : Int)
  · rw [decide_eq_true h, if_pos h, Bool.not_true, br_false]
    obtain ⟨m, rfl⟩ : ∃ m, n = m + 4 := ⟨n - 4, by unfold BIG at hn; omega⟩
    have key : fx (s_l8Kind_L1 (m + 4)) (m + 4) (0, g, c) = if place3 g.1.2.2.length c.2 = true then some 2 else some 3 := by
      refine Eq.trans (fx_sec (fun i => (i, g, c)) (B' := fun go i => s_l8Kind_L1 (m + 4) (fun s => go s.1) (i, g, c)) (fun go go' hg i => by
        unfold s_l8Kind_L1
        simp only [hg]) (m + 4) 0) (chk3 (fun go i => s_l8Kind_L1 (m + 4) (fun s => go s.1) (i, g, c)) g.1.2.2.length c.2 (some 3) (some 2) ?_ ?_ ?_ ?_ m)
      · intro go
        simp only [s_l8Kind_L1, lt_eq, s_l1In_eq, ob_some]
        rw [w64_id (x := (g.1.2.2.length : Int) - 1) (by omega)]
        show br (decide ((0 : Int) < 3)) (ckb (inb 0 3) (ob (br (! decide (0 ≤ c.2.x0 ∧ c.2.x0 ≤ (g.1.2.2.length : Int) - 1)) (some true) (ob (br (decide ((0 : Int) < 0)) (ckb _ (ckb _ _)) (some false)) fun x8 => some x8)) fun x9 => br x9 (some 3) (go (w64 (0 + 1))))) _ = _
        rw [in_range]
        by_cases h : 0 ≤ c.2.x0 ∧ c.2.x0 < (g.1.2.2.length : Int)
        · rw [if_pos h, decide_eq_true h]; rfl
        · rw [if_neg h, decide_eq_false h]; rfl
      · intro go
        simp only [s_l8Kind_L1, lt_eq, s_l1In_eq, ob_some]
        rw [w64_id (x := (g.1.2.2.length : Int) - 1) (by omega)]
        show br (decide ((1 : Int) < 3)) (ckb (inb 1 3) (ob (br (! decide (0 ≤ c.2.x1 ∧ c.2.x1 ≤ (g.1.2.2.length : Int) - 1)) (some true) (ob (br (decide ((0 : Int) < 1)) (ckb (inb (w64 (1 - 1)) 3) (ckb (inb 1 3) (some (decide (c.2.x1 ≤ c.2.x0))))) (some false)) fun x8 => some x8)) fun x9 => br x9 (some 3) (go (w64 (1 + 1))))) _ = _
        rw [in_range]
        by_cases h : 0 ≤ c.2.x1 ∧ c.2.x1 < (g.1.2.2.length : Int)
        · rw [decide_eq_true h]
          by_cases h2 : c.2.x1 ≤ c.2.x0
          · rw [if_neg (by omega), decide_eq_true h2]; rfl
          · rw [if_pos ⟨h, h2⟩, decide_eq_false h2]; rfl
        · rw [if_neg (by omega), decide_eq_false h]; rfl
      · intro go
        simp only [s_l8Kind_L1, lt_eq, s_l1In_eq, ob_some]
        rw [w64_id (x := (g.1.2.2.length : Int) - 1) (by omega)]
        show br (decide ((2 : Int) < 3)) (ckb (inb 2 3) (ob (br (! decide (0 ≤ c.2.x2 ∧ c.2.x2 ≤ (g.1.2.2.length : Int) - 1)) (some true) (ob (br (decide ((0 : Int) < 2)) (ckb (inb (w64 (2 - 1)) 3) (ckb (inb 2 3) (some (decide (c.2.x2 ≤ c.2.x1))))) (some false)) fun x8 => some x8)) fun x9 => br x9 (some 3) (go (w64 (2 + 1))))) _ = _
        rw [in_range]
        by_cases h : 0 ≤ c.2.x2 ∧ c.2.x2 < (g.1.2.2.length : Int)
        · rw [decide_eq_true h]
          by_cases h2 : c.2.x2 ≤ c.2.x1
          · rw [if_neg (by omega), decide_eq_true h2]; rfl
          · rw [if_pos ⟨h, h2⟩, decide_eq_false h2]; rfl
        · rw [if_neg (by omega), decide_eq_false h]; rfl
      · intro go; rfl
    cases hp : place3 g.1.2.2.length c.2 with
    | false => rw [hp] at key; rw [key]; rfl
    | true =>
      rw [hp] at key
      cases hq : line3 g.1.2.2 c.2 with
      | true => rfl
      | false => rw [key]; rfl
  · rw [decide_eq_false h, if_neg h]; rfl
theorem i_kind_eq {n : Nat} (hn : BIG ≤ n) {g : Game} (c : Claim) (hl : g.1.2.2.length ≤ 81) (hs : g.2.1.length ≤ 1000000) (hc : ∀ x, x ∈ g.1.2.2 → isC x = true) : _impl_Game__kind n g c = some (kindG g c) := by
  unfold _impl_Game__kind _impl_Game__isPlayer kindG
  simp only [lt_eq, i_within_eq, ob_some]
  rw [w64_id (by omega), in_range]
  by_cases h : 0 ≤ c.1 ∧ c.1 < (g.2.1.length : Int)
  · rw [decide_eq_true h, if_pos h, Bool.not_true, br_false, ob_some, br_some, ob_some, br_some, ob_some, br_some, ob_some]
    cases hp : place3 g.1.2.2.length c.2 with
    | false =>
      have hp2 : ¬ (0 ≤ c.2.x0 ∧ c.2.x0 < c.2.x1 ∧ c.2.x1 < c.2.x2 ∧ c.2.x2 < (g.1.2.2.length : Int)) := fun e => by rw [← place3_iff, hp] at e; cases e
      rw [br_pos]
      · rfl
      · by_cases a : c.2.x0 < 0 <;> by_cases b : c.2.x1 ≤ c.2.x0 <;> by_cases d : c.2.x2 ≤ c.2.x1 <;> simp [a, b, d]
        omega
    | true =>
      have hp2 := place3_iff.1 hp
      have q : ∀ x : Int, 0 ≤ x → x < (g.1.2.2.length : Int) → isC (gl ⟨0, 0, 0, 0⟩ g.1.2.2 x.toNat) = true := fun x h0 h1 => by
        have : x.toNat < g.1.2.2.length := by omega
        rw [gl_eq this]; exact hc _ (List.getElem_mem this)
      rw [br_neg]
      · rw [ckb_pos (inb_pos (by omega) (by omega)), ckb_pos (inb_pos (by omega) (by omega)), ckb_pos (inb_pos (by omega) (by omega)), i_isLine_eq hn _ (q _ (by omega) (by omega)) (q _ (by omega) (by omega)), ob_some]
        show br (line3 g.1.2.2 c.2) (some 1) (some 2) = _
        cases line3 g.1.2.2 c.2 <;> rfl
      · have a : ¬ c.2.x0 < 0 := by omega
        have b : ¬ c.2.x1 ≤ c.2.x0 := by omega
        have d : ¬ c.2.x2 ≤ c.2.x1 := by omega
        simp [a, b, d]; omega
  · rw [decide_eq_false h, if_neg h]; rfl
end Go.Pl

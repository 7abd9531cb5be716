/- Plain laws: LCp. -/
import Derived.Test.YtklhncjpkkfjmaaLLFl
import Derived.Test.YtklhncjpkkfjmaaLLVc
import Derived.Test.YtklhncjpkkfjmaaLLDh
set_option linter.unusedVariables false
set_option linter.unusedSimpArgs false
namespace Go.Pl
open Go Go.Tv Go.RowKit
set_option linter.unusedVariables false

/-! cap functions -/
def BK (b : Bool) (h : List Card) : Bool × List Int := if hand h then (true, outs h b) else (false, [])
theorem s_BlockedCards_eq {n : Nat} (hn : BIG ≤ n) {h : List Card} (hl : h.length ≤ 1048576) : s_BlockedCards n h = some (BK true h) := by
  unfold s_BlockedCards BK
  rw [s_l2Hand_eq hn (by omega), ob_some]
  cases hh : hand h with
  | false => rfl
  | true => rw [s_l3Cards_eq hn (HandL.of hh)]; rfl
theorem i_BlockedCards_eq {n : Nat} (hn : BIG ≤ n) {h : List Card} (hl : h.length ≤ 1048576) : i_BlockedCards n h = some (BK true h) := by
  unfold i_BlockedCards BK
  rw [i_IsHand_eq hn (by omega), ob_some]
  cases hh : hand h with
  | false => rfl
  | true => rw [i_outside_eq hn (HandL.of hh)]; rfl
theorem s_FreeCards_eq {n : Nat} (hn : BIG ≤ n) {h : List Card} (hl : h.length ≤ 1048576) : s_FreeCards n h = some (BK false h) := by
  unfold s_FreeCards BK
  rw [s_l2Hand_eq hn (by omega), ob_some]
  cases hh : hand h with
  | false => rfl
  | true => rw [s_l3Cards_eq hn (HandL.of hh)]; rfl
theorem i_FreeCards_eq {n : Nat} (hn : BIG ≤ n) {h : List Card} (hl : h.length ≤ 1048576) : i_FreeCards n h = some (BK false h) := by
  unfold i_FreeCards BK
  rw [i_IsHand_eq hn (by omega), ob_some]
  cases hh : hand h with
  | false => rfl
  | true => rw [i_outside_eq hn (HandL.of hh)]; rfl
def IC (h : List Card) : Bool × Bool := if hand h then (capB h, true) else (false, false)
theorem s_IsCap_eq {n : Nat} (hn : BIG ≤ n) {h : List Card} (hl : h.length ≤ 1048576) : s_IsCap n h = some (IC h) := by
  unfold s_IsCap IC
  rw [s_l2Hand_eq hn (by omega), ob_some]
  cases hh : hand h with
  | false => rfl
  | true => rw [s_l3Cap_eq hn hh]; rfl
theorem i_IsCap_eq {n : Nat} (hn : BIG ≤ n) {h : List Card} (hl : h.length ≤ 1048576) : i_IsCap n h = some (IC h) := by
  unfold i_IsCap IC
  rw [i_IsHand_eq hn (by omega), ob_some]
  cases hh : hand h with
  | false => rfl
  | true => rw [i_isCap_eq hn hh]; rfl
def FU (h : List Card) : Bool × Bool := if hand h then (capB h && decide (((outs h false).length : Int) = 0), true) else (false, false)
theorem s_IsFullCap_eq {n : Nat} (hn : BIG ≤ n) {h : List Card} (hl : h.length ≤ 1048576) : s_IsFullCap n h = some (FU h) := by
  unfold s_IsFullCap FU
  rw [s_l2Hand_eq hn (by omega), ob_some]
  cases hh : hand h with
  | false => rfl
  | true =>
    rw [s_l3Cap_eq hn hh]
    cases capB h with
    | false => rfl
    | true => rw [s_l3Cards_eq hn (HandL.of hh)]; rfl
theorem i_IsFullCap_eq {n : Nat} (hn : BIG ≤ n) {h : List Card} (hl : h.length ≤ 1048576) : i_IsFullCap n h = some (FU h) := by
  unfold i_IsFullCap FU
  rw [i_IsHand_eq hn (by omega), ob_some]
  cases hh : hand h with
  | false => rfl
  | true =>
    rw [i_isCap_eq hn hh]
    cases capB h with
    | false => rfl
    | true => rw [i_outside_eq hn (HandL.of hh)]; rfl
theorem s_capLines_eq {n : Nat} (hn : BIG ≤ n) {h : List Card} (H : HandL h) (c : Card) : fx (s_CapLines_L2 n) n (h, 0, c, []) = some (true, prs h c) := by
  have hl := H.len
  have hb := thr_len (h := h) (c := c)
  have hb2 : h.length * h.length ≤ 100 * 100 := Nat.mul_le_mul hl hl
  have := fx_app (B := s_CapLines_L2 n) h.length (fun i a => (h, (i : Int), c, a)) (pr2 h c) (fun a => some (true, a)) 1000000 (fun self i a hi hM => by
    simp only [s_CapLines_L2, lt_eq]
    rw [br_pos (decide_eq_true (show (i : Int) < (h.length : Int) by omega)), w64_succ (by omega)]
    refine fx_app (B := s_CapLines_L1 n self) h.length (fun j a => (h, (i : Int), (j : Int), c, a)) (pr1 h c i) (fun a => self (h, ((i + 1 : Nat) : Int), c, a)) 1000000 (fun self2 j a hj hM2 => ?_) (fun self2 a => by
      simp only [s_CapLines_L1, lt_eq]
      rw [br_neg (decide_eq_false (by omega)), w64_succ (by omega)]) n (i + 1) a (by omega) (big_gt hn (by omega)) (by unfold pr2 at hM; exact hM)
    simp only [s_CapLines_L1, lt_eq]
    rw [br_pos (decide_eq_true (show (j : Int) < (h.length : Int) by omega)), ckb_pos (inb_ok hi), ckb_pos (inb_ok hj), toNat_cast, toNat_cast, s_l2Line_eq hn c (gl_C H.c hi) (gl_C H.c hj), ob_some, w64_succ (k := j) (by omega)]
    unfold pr1 at hM2 ⊢
    cases hx : lineB (gl ⟨0, 0, 0, 0⟩ h i) (gl ⟨0, 0, 0, 0⟩ h j) c with
    | true =>
      rw [hx] at hM2
      simp only [if_true, List.length_singleton] at hM2
      rw [br_true, ckb_pos (apok_ok (by omega) (by omega))]; simp
    | false => simp) (fun self a => by
    simp only [s_CapLines_L2]
    rw [br_neg (decide_eq_false (by omega))]) n 0 [] (Nat.zero_le _) (big_gt hn (by omega)) (by unfold thr prs at hb; simp only [List.length_nil]; omega)
  rw [List.nil_append] at this
  exact this
def CL (h : List Card) (c : Card) : Bool × List (V2 Int) := if hand h && isC c && !h.contains c then (true, prs h c) else (false, [])
theorem s_CapLines_eq {n : Nat} (hn : BIG ≤ n) {h : List Card} (hl : h.length ≤ 1048576) (c : Card) : s_CapLines n h c = some (CL h c) := by
  unfold s_CapLines CL
  rw [s_l2Hand_eq hn (by omega), ob_some]
  cases hh : hand h with
  | false => rfl
  | true =>
    rw [s_l2Card_eq hn]
    cases hc : isC c with
    | false => rfl
    | true =>
      simp only [Bool.not_true, br_false, ob_some]
      rw [s_l2Has_eq hn (by omega)]
      cases hm : h.contains c with
      | true => rfl
      | false => exact s_capLines_eq hn (HandL.of hh) c
theorem i_CapLines_eq {n : Nat} (hn : BIG ≤ n) {h : List Card} (hl : h.length ≤ 1048576) (c : Card) : i_CapLines n h c = some (CL h c) := by
  unfold i_CapLines CL
  rw [i_IsHand_eq hn (by omega), ob_some]
  cases hh : hand h with
  | false => rfl
  | true =>
    rw [i_IsCard_eq hn]
    cases hc : isC c with
    | false => rfl
    | true =>
      simp only [Bool.not_true, br_false, ob_some]
      rw [i_has_eq hn (by omega)]
      cases hm : h.contains c with
      | true => rfl
      | false =>
        simp only [br_false, ob_some]
        rw [i_pairsFor_eq hn (HandL.of hh)]; rfl

/-! words of the laws -/
theorem v_vHas_eq {n : Nat} (hn : BIG ≤ n) {a : List Int} (hl : a.length ≤ 1000000) (x : Int) : v_vHas n a x = some (a.contains x) := by
  unfold v_vHas
  have := fx_cnt (B := v_vHas_L1 n) a.length (fun i => (a, x, (i : Int))) (fun _ => True) (fun i => some ((a.drop i).contains x)) (fun self i hi _ ih => by
    simp only [v_vHas_L1]
    by_cases h : i < a.length
    · rw [br_pos (decide_eq_true (show (i : Int) < (a.length : Int) by omega)), ckb_pos (inb_ok h), toNat_cast, gl_eq h, lt_eq, w64_succ (by omega)]
      rw [List.drop_eq_getElem_cons h, List.contains_cons]
      by_cases hc : a[i] = x
      · rw [br_pos (decide_eq_true hc)]; simp [hc]
      · rw [br_neg (decide_eq_false hc), ih h trivial]
        have : (x == a[i]) = false := by simpa [beq_eq_false_iff_ne] using fun e => hc (Eq.symm e)
        rw [this, Bool.false_or]
    · rw [br_neg (decide_eq_false (by omega)), List.drop_eq_nil_of_le (by omega)]; rfl) n 0 (Nat.zero_le _) trivial (big_gt hn (by omega))
  simpa using this
theorem v_vHands_eq {n : Nat} (hn : BIG ≤ n) {a b : List Card} (hl : a.length ≤ 9223372036854775806) : v_vHands n a b = some (decide (a = b)) := by
  unfold v_vHands
  by_cases hlen : a.length = b.length
  · have e0 : decide ((a.length : Int) = (b.length : Int)) = true := decide_eq_true (by omega)
    simp only [e0, Bool.not_true, br_false]
    have := fx_cnt (B := v_vHands_L1 n) a.length (fun i => (a, b, (i : Int))) (fun _ => True) (fun i => some (decide (a.drop i = b.drop i))) (fun self i hi _ ih => by
      simp only [v_vHands_L1]
      by_cases h : i < a.length
      · have e1 : decide ((i : Int) < (a.length : Int)) = true := decide_eq_true (by omega)
        simp only [e1, br_true, inb_ok h, inb_ok (show i < b.length by omega), ckb_true, toNat_cast, gl_eq h, gl_eq (show i < b.length by omega), lt_eq]
        rw [List.drop_eq_getElem_cons h, List.drop_eq_getElem_cons (show i < b.length by omega)]
        by_cases hc : a[i] = b[i]
        · simp only [eqd, hc, decide_true, Bool.not_true, br_false, List.cons.injEq, true_and]
          rw [w64_succ (by omega)]; exact ih h trivial
        · have hne : ¬ (a[i] :: a.drop (i + 1) = b[i] :: b.drop (i + 1)) := fun e => hc (List.cons.inj e).1
          rw [decide_eq_false hne]; unfold eqd; rw [decide_eq_false hc]; rfl
      · have e1 : decide ((i : Int) < (a.length : Int)) = false := decide_eq_false (by omega)
        simp only [e1, br_false]
        rw [List.drop_eq_nil_of_le (by omega), List.drop_eq_nil_of_le (by omega)]; simp) n 0 (Nat.zero_le _) trivial (big_gt hn (by omega))
    simpa using this
  · have e0 : decide ((a.length : Int) = (b.length : Int)) = false := decide_eq_false (by omega)
    simp only [e0, Bool.not_false, br_true]
    have : a ≠ b := fun h => hlen (by rw [h])
    simp [this]
theorem v_vPairs_eq {n : Nat} (hn : BIG ≤ n) {a b : List (V2 Int)} (hl : a.length ≤ 9223372036854775806) : v_vPairs n a b = some (decide (a = b)) := by
  unfold v_vPairs
  by_cases hlen : a.length = b.length
  · have e0 : decide ((a.length : Int) = (b.length : Int)) = true := decide_eq_true (by omega)
    simp only [e0, Bool.not_true, br_false]
    have := fx_cnt (B := v_vPairs_L1 n) a.length (fun i => (a, b, (i : Int))) (fun _ => True) (fun i => some (decide (a.drop i = b.drop i))) (fun self i hi _ ih => by
      simp only [v_vPairs_L1]
      by_cases h : i < a.length
      · have e1 : decide ((i : Int) < (a.length : Int)) = true := decide_eq_true (by omega)
        simp only [e1, br_true, inb_ok h, inb_ok (show i < b.length by omega), ckb_true, toNat_cast, gl_eq h, gl_eq (show i < b.length by omega), lt_eq]
        rw [List.drop_eq_getElem_cons h, List.drop_eq_getElem_cons (show i < b.length by omega)]
        by_cases hc : a[i] = b[i]
        · simp only [eqd, hc, decide_true, Bool.not_true, br_false, List.cons.injEq, true_and]
          rw [w64_succ (by omega)]; exact ih h trivial
        · have hne : ¬ (a[i] :: a.drop (i + 1) = b[i] :: b.drop (i + 1)) := fun e => hc (List.cons.inj e).1
          rw [decide_eq_false hne]; unfold eqd; rw [decide_eq_false hc]; rfl
      · have e1 : decide ((i : Int) < (a.length : Int)) = false := decide_eq_false (by omega)
        simp only [e1, br_false]
        rw [List.drop_eq_nil_of_le (by omega), List.drop_eq_nil_of_le (by omega)]; simp) n 0 (Nat.zero_le _) trivial (big_gt hn (by omega))
    simpa using this
  · have e0 : decide ((a.length : Int) = (b.length : Int)) = false := decide_eq_false (by omega)
    simp only [e0, Bool.not_false, br_true]
    have : a ≠ b := fun h => hlen (by rw [h])
    simp [this]

/-! greedy caps -/
def grK (h : List Card) : Nat → List Nat
  | 0 => []
  | k + 1 => if thr ((grK h k).map (gz h)) (gz h k) = 0 then grK h k ++ [k] else grK h k
theorem grK_lt (h : List Card) : ∀ k, ∀ i ∈ grK h k, i < k
  | 0, i, hi => by cases hi
  | k + 1, i, hi => by
    unfold grK at hi
    split at hi
    · rcases List.mem_append.1 hi with hi | hi
      · have := grK_lt h k i hi; omega
      · rw [List.mem_singleton] at hi; omega
    · have := grK_lt h k i hi; omega
theorem grK_pw (h : List Card) : ∀ k, (grK h k).Pairwise (· < ·)
  | 0 => List.Pairwise.nil
  | k + 1 => by
    unfold grK
    split
    · exact List.pairwise_append.2 ⟨grK_pw h k, List.pairwise_singleton _ _, fun a ha b hb => by rw [List.mem_singleton.1 hb]; exact grK_lt h k a ha⟩
    · exact grK_pw h k
theorem grK_len (h : List Card) : ∀ k, (grK h k).length ≤ k
  | 0 => Nat.le_refl _
  | k + 1 => by
    have := grK_len h k
    unfold grK
    split
    · rw [List.length_append, List.length_singleton]; omega
    · omega
theorem ix_hand {h : List Card} (H : HandL h) {I : List Nat} (hp : I.Pairwise (· < ·)) (hb : ∀ i ∈ I, i < h.length) : HandL (I.map (gz h)) := by
  have hc : AllC (I.map (gz h)) := fun c hc => by
    obtain ⟨i, hi, rfl⟩ := List.mem_map.1 hc
    exact gl_C H.c (hb i hi)
  have hnd : (I.map (gz h)).Nodup := by
    unfold List.Nodup
    rw [List.pairwise_map]
    exact List.Pairwise.imp_of_mem (fun {a b} ha hb' hlt e => by have := gz_inj H (hb a ha) (hb b hb') e; omega) hp
  exact ⟨hc, hnd, by have := nodup_len81 hnd hc; omega⟩
theorem s_l3Picked_eq {n : Nat} (hn : BIG ≤ n) (h : List Card) {I : List Nat} (hb : ∀ i ∈ I, i < h.length) (hl : I.length ≤ 1000000) : s_l3Picked n h (I.map fun (i : Nat) => (i : Int)) = some (I.map (gz h)) := by
  unfold s_l3Picked
  have := fx_app (B := s_l3Picked_L1 n) I.length (fun i a => (h, I.map (fun (i : Nat) => (i : Int)), (i : Int), a)) (fun k => [gz h (gl 0 I k)]) some 1000000 (fun self i a hi hM => by
    simp only [s_l3Picked_L1, lt_eq, List.length_map]
    have e : gl (0 : Int) (I.map fun (i : Nat) => (i : Int)) i = (I[i] : Int) := by rw [gl_eq (by rw [List.length_map]; exact hi), List.getElem_map]
    have e2 : gl 0 I i = I[i] := gl_eq hi
    simp only [List.length_singleton] at hM
    rw [br_pos (decide_eq_true (show (i : Int) < (I.length : Int) by omega)), ckb_pos (inb_ok hi), toNat_cast, e, ckb_pos (inb_ok (hb _ (List.getElem_mem hi))), ckb_pos (apok_ok (by omega) (by omega)), w64_succ (by omega), toNat_cast, e2]) (fun self a => by
    simp only [s_l3Picked_L1, List.length_map]
    rw [br_neg (decide_eq_false (by omega))]) n 0 [] (Nat.zero_le _) (big_gt hn (by omega)) (by
      have := flen (l := List.range' 0 (I.length - 0)) (f := fun k => [gz h (gl 0 I k)]) (M := 1) fun _ _ => Nat.le_refl _
      rw [List.length_range'] at this
      simp only [List.length_nil]; omega)
  rw [List.nil_append] at this
  refine this.trans ?_
  congr 1
  rw [← List.map_eq_flatMap]
  refine List.ext_getElem (by simp) fun i h1 h2 => ?_
  rw [List.length_map, List.length_range'] at h1
  rw [List.getElem_map, List.getElem_map, List.getElem_range']
  rw [gl_eq (by omega)]
  simp
def GC (h : List Card) : Bool × List Int := if hand h then (true, (grK h h.length).map fun (i : Nat) => (i : Int)) else (false, [])
theorem s_GreedyCap_eq {n : Nat} (hn : BIG ≤ n) {h : List Card} (hl : h.length ≤ 1048576) : s_GreedyCap n h = some (GC h) := by
  unfold s_GreedyCap GC
  rw [s_l2Hand_eq hn (by omega), ob_some]
  cases hh : hand h with
  | false => rfl
  | true =>
    have H := HandL.of hh
    have h27 := hand_len hh
    show fx _ _ _ = _
    have := fx_cnt (B := s_GreedyCap_L1 n) h.length (fun k => (h, (k : Int), (grK h k).map fun (i : Nat) => (i : Int))) (fun _ => True) (fun _ => some (true, (grK h h.length).map fun (i : Nat) => (i : Int))) (fun self k hk _ ih => by
      have hb : ∀ i ∈ grK h k, i < h.length := fun i hi => by have := grK_lt h k i hi; omega
      have hgl := grK_len h k
      simp only [s_GreedyCap_L1, lt_eq]
      by_cases hk2 : k < h.length
      · rw [br_pos (decide_eq_true (show (k : Int) < (h.length : Int) by omega)), s_l3Picked_eq hn h hb (by omega), ob_some, ckb_pos (inb_ok hk2), toNat_cast, s_l2Through_eq hn (ix_hand H (grK_pw h k) hb), ob_some, w64_succ (by omega), ← ih hk2 trivial]
        rw [grK]
        by_cases h0 : thr ((grK h k).map (gz h)) (gz h k) = 0
        · have e : decide (((thr ((grK h k).map (gz h)) (gl ⟨0, 0, 0, 0⟩ h k) : Nat) : Int) = 0) = true := by
            have : thr ((grK h k).map (gz h)) (gl ⟨0, 0, 0, 0⟩ h k) = 0 := h0
            rw [this]; rfl
          rw [e, br_true, if_pos h0, List.length_map, ckb_pos (apok_ok (by omega) (by omega)), List.map_append, List.map_singleton]
        · have e : decide (((thr ((grK h k).map (gz h)) (gl ⟨0, 0, 0, 0⟩ h k) : Nat) : Int) = 0) = false := by
            have : 0 < thr ((grK h k).map (gz h)) (gl ⟨0, 0, 0, 0⟩ h k) := Nat.pos_of_ne_zero h0
            exact decide_eq_false (by omega)
          rw [e, br_false, if_neg h0]
      · have : k = h.length := by omega
        subst this
        rw [br_neg (decide_eq_false (by omega))]) n 0 (Nat.zero_le _) trivial (big_gt hn (by omega))
    exact this
theorem i_GreedyCap_eq {n : Nat} (hn : BIG ≤ n) {h : List Card} (hl : h.length ≤ 1048576) : i_GreedyCap n h = some (GC h) := by
  unfold i_GreedyCap GC
  rw [i_IsHand_eq hn (by omega), ob_some]
  cases hh : hand h with
  | false => rfl
  | true =>
    have H := HandL.of hh
    have h27 := hand_len hh
    show fx _ _ _ = _
    have := fx_cnt (B := i_GreedyCap_L1 n) h.length (fun k => (h, (h.length : Int), (k : Int), (grK h k).map (fun (i : Nat) => (i : Int)), (grK h k).map (gz h))) (fun _ => True) (fun _ => some (true, (grK h h.length).map fun (i : Nat) => (i : Int))) (fun self k hk _ ih => by
      have hb : ∀ i ∈ grK h k, i < h.length := fun i hi => by have := grK_lt h k i hi; omega
      have hgl := grK_len h k
      simp only [i_GreedyCap_L1, lt_eq]
      by_cases hk2 : k < h.length
      · rw [br_pos (decide_eq_true (show (k : Int) < (h.length : Int) by omega)), ckb_pos (inb_ok hk2), toNat_cast, i_isBlocked_eq hn (ix_hand H (grK_pw h k) hb), ob_some, w64_succ (by omega), ← ih hk2 trivial]
        rw [grK]
        by_cases h0 : thr ((grK h k).map (gz h)) (gz h k) = 0
        · have e : (!decide (0 < thr ((grK h k).map (gz h)) (gl ⟨0, 0, 0, 0⟩ h k))) = true := by
            have : thr ((grK h k).map (gz h)) (gl ⟨0, 0, 0, 0⟩ h k) = 0 := h0
            rw [this]; rfl
          rw [e, br_true, if_pos h0, List.length_map, List.length_map, ckb_pos (apok_ok (by omega) (by omega)), ckb_pos (apok_ok (by omega) (by omega)), List.map_append, List.map_append, List.map_singleton, List.map_singleton]
        · have e : (!decide (0 < thr ((grK h k).map (gz h)) (gl ⟨0, 0, 0, 0⟩ h k))) = false := by
            have : 0 < thr ((grK h k).map (gz h)) (gl ⟨0, 0, 0, 0⟩ h k) := Nat.pos_of_ne_zero h0
            rw [decide_eq_true this]; rfl
          rw [e, br_false, if_neg h0]
      · have : k = h.length := by omega
        subst this
        rw [br_neg (decide_eq_false (by omega))]) n 0 (Nat.zero_le _) trivial (big_gt hn (by omega))
    exact this

/-! drawn caps -/
theorem FC_len (h : List Card) : (FC h).2.length ≤ 81 := by
  by_cases hh : (hand h && capB h) = true
  · have e : FC h = (true, fillD h) := by unfold FC; rw [if_pos hh]
    rw [e]
    rw [Bool.and_eq_true] at hh
    have D := fillD_ok (HandL.of hh.1) ((capB_iff (HandL.of hh.1)).1 hh.2)
    generalize fillD h = d at D
    exact nodup_len81 D.ss.nodup D.c
  · have e : FC h = (false, []) := by unfold FC; rw [if_neg hh]
    rw [e]; simp
theorem s_l2Drop_ok {n : Nat} {h : List Card} (hl : h.length ≤ 1000) {i : Int} (h0 : 0 ≤ i) (h1 : i < h.length) : s_l2Drop n h i = some (h.take i.toNat ++ h.drop (i.toNat + 1)) := by
  obtain ⟨k, rfl⟩ : ∃ k : Nat, i = k := ⟨i.toNat, by omega⟩
  unfold s_l2Drop
  have e1 : sub h 0 k = h.take k := by unfold sub; simp
  have e2 : sub h (k + 1) h.length = h.drop (k + 1) := by unfold sub; rw [List.take_of_length_le (by simp)]
  rw [toNat_cast, ckb_pos (slb_ok (by omega) (by omega) (by omega)), e1, s_l2Own_eq (by rw [List.length_take]; omega), ob_some, lt_eq, w64_succ (by omega), ckb_pos (slb_ok (by omega) (by omega) (by omega)), toNat_cast, e2,
    ckb_pos (apok_ok (by rw [List.length_take, List.length_drop]; omega) (by rw [List.length_take, List.length_drop]; omega))]
def CapR (m : Nat) (o : Opt (Cu × List Card)) : Prop := ∃ c' h, o = some (c', h) ∧ h.length ≤ 81 ∧ CuOK m c'
theorem cap3_J1 {n : Nat} (hn : BIG ≤ n) {m : Nat} {c : Cu} (hc : CuOK m c) (hm : m < 4611686018427300000) {h : List Card} (hl : h.length ≤ 29) (b : Bool) (hb : b = false → hand h = true) : CapR (m + 20) (s_Cur_cap3'p_J1 n (b, c, h)) := by
  unfold s_Cur_cap3'p_J1
  cases b with
  | true => exact ⟨c, h, rfl, by omega, hc.mono (by omega)⟩
  | false =>
    have hh := hb rfl
    have e : (GC h).2 = (grK h h.length).map fun (i : Nat) => (i : Int) := by unfold GC; rw [hh]; rfl
    have hgl := grK_len h h.length
    simp only [br_false]
    rw [s_GreedyCap_eq hn (by omega), ob_some, e, s_l3Picked_eq hn h (grK_lt h h.length) (by omega), ob_some]
    obtain ⟨x, c1, e1, k1⟩ := one_ok n hc (by omega) (a := 4) (by omega)
    rw [e1, ob_some]
    have hpl : ((grK h h.length).map (gz h)).length ≤ 29 := by rw [List.length_map]; omega
    cases x with
    | false => exact ⟨_, _, rfl, by omega, k1.mono (by omega)⟩
    | true =>
      simp only [br_true]
      have hfl := FC_len ((grK h h.length).map (gz h))
      rw [s_FillCap_eq hn (by omega), ob_some]
      obtain ⟨y, c2, e2, k2⟩ := one_ok n k1 (by omega) (a := 2) (by omega)
      rw [e2, ob_some]
      generalize (FC ((grK h h.length).map (gz h))).2 = d at hfl
      cases y with
      | false => exact ⟨_, _, rfl, hfl, k2.mono (by omega)⟩
      | true =>
        simp only [br_true, ob_some]
        rw [br_dec]
        split
        · obtain ⟨i, c3, e3, k3, i0, i1⟩ := pick_ok n k2 (by omega) (a := (d.length : Int)) (by omega)
          rw [e3, ob_some, s_l2Drop_ok (by omega) i0 i1, ob_some]
          exact ⟨_, _, rfl, by rw [List.length_append, List.length_take, List.length_drop]; omega, k3.mono (by omega)⟩
        · exact ⟨_, _, rfl, hfl, k2.mono (by omega)⟩
theorem cap3_ok {n : Nat} (hn : BIG ≤ n) {m : Nat} {c : Cu} (hc : CuOK m c) (hm : m + 300 < 4611686018427300000) : CapR (m + 300) (s_Cur_cap3'p n c) := by
  unfold s_Cur_cap3'p
  obtain ⟨c1, h, e1, hl, k1⟩ := hand_ok hn hc (by omega)
  rw [e1, ob_some]
  simp only []
  rw [s_l2Hand_eq hn (by omega), ob_some]
  cases hh : hand h with
  | false =>
    rw [Bool.not_false, br_true]
    obtain ⟨c', h', e, hl', k⟩ := cap3_J1 hn k1 (by omega) hl true (fun e => by cases e)
    exact ⟨c', h', e, hl', k.mono (by omega)⟩
  | true =>
    rw [Bool.not_true, br_false]
    obtain ⟨x, c2, e2, k2⟩ := one_ok n k1 (by omega) (a := 4) (by omega)
    rw [e2, ob_some]
    obtain ⟨c', h', e, hl', k⟩ := cap3_J1 hn k2 (by omega) hl x (fun _ => hh)
    exact ⟨c', h', e, hl', k.mono (by omega)⟩
theorem cardOf_J1 {n : Nat} {m : Nat} {c : Cu} (hc : CuOK m c) (hm : m < 4611686018427300000) {h : List Card} (b : Bool) (hb : b = true → 0 < h.length) (z : Card) : ∃ r c', s_Cur_cardOf'pl_J1 n (h, b, c, z) = some (r, c') ∧ CuOK (m + 8) c' := by
  unfold s_Cur_cardOf'pl_J1
  cases b with
  | true =>
    have := hb rfl
    simp only [br_true]
    obtain ⟨i, c1, e1, k1, i0, i1⟩ := pick_ok n hc (by omega) (a := (h.length : Int)) (by omega)
    rw [e1, ob_some, ckb_pos (inb_pos i0 i1)]
    exact ⟨_, _, rfl, k1.mono (by omega)⟩
  | false =>
    obtain ⟨r, c1, e1, k1⟩ := card_ok n hc (by omega)
    simp only [br_false]
    rw [e1, ob_some]
    exact ⟨_, _, rfl, k1⟩
theorem cardOf_ok {n : Nat} {m : Nat} {c : Cu} (hc : CuOK m c) (hm : m + 10 < 4611686018427300000) (h : List Card) : ∃ r c', s_Cur_cardOf'pl n h c = some (r, c') ∧ CuOK (m + 10) c' := by
  unfold s_Cur_cardOf'pl
  rw [br_dec]
  split
  · obtain ⟨x, c1, e1, k1⟩ := one_ok n hc (by omega) (a := 3) (by omega)
    rw [e1, ob_some]
    obtain ⟨r, c2, e, k⟩ := cardOf_J1 (n := n) k1 (by omega) (h := h) (!x) (fun _ => by omega) ⟨0, 0, 0, 0⟩
    exact ⟨r, c2, e, k⟩
  · obtain ⟨r, c2, e, k⟩ := cardOf_J1 (n := n) hc (by omega) (h := h) false (fun h => by cases h) ⟨0, 0, 0, 0⟩
    exact ⟨r, c2, e, k.mono (by omega)⟩
end Go.Pl

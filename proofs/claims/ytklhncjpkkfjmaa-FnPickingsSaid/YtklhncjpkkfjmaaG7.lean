/- Plain laws: LCp, LPk, LC3, LPk2, LSm. -/
import Derived.Test.YtklhncjpkkfjmaaG6
import Derived.Test.YtklhncjpkkfjmaaPL
import Derived.Test.YtklhncjpkkfjmaaG2
set_option linter.unusedVariables false
set_option linter.unusedSimpArgs false
namespace Go.Pl
open Go Go.Tv Go.RowKit
set_option linter.unusedVariables false

/-! cap functions -/
def BK (b : Bool) (h : List Card) : Bool × List Int := if hand h then (true, outs h b) else (false, [])
theorem s_BlockedCards_eq {n : Nat} (hn : BIG ≤ n) {h : List Card} (hl : h.length ≤ 1048576) : s_BlockedCards n h = some (BK true h) := by
  unfold s_BlockedCards BK
  rw [s_l2Hand_eq hn (by omega), ob_some]
  cases hh : hand h with
  | false => rfl
  | true => rw [s_l3Cards_eq hn (HandL.of hh)]; rfl
theorem i_BlockedCards_eq {n : Nat} (hn : BIG ≤ n) {h : List Card} (hl : h.length ≤ 1048576) : i_BlockedCards n h = some (BK true h) := by
  unfold i_BlockedCards BK
  rw [i_IsHand_eq hn (by omega), ob_some]
  cases hh : hand h with
  | false => rfl
  | true => rw [i_outside_eq hn (HandL.of hh)]; rfl
theorem s_FreeCards_eq {n : Nat} (hn : BIG ≤ n) {h : List Card} (hl : h.length ≤ 1048576) : s_FreeCards n h = some (BK false h) := by
  unfold s_FreeCards BK
  rw [s_l2Hand_eq hn (by omega), ob_some]
  cases hh : hand h with
  | false => rfl
  | true => rw [s_l3Cards_eq hn (HandL.of hh)]; rfl
theorem i_FreeCards_eq {n : Nat} (hn : BIG ≤ n) {h : List Card} (hl : h.length ≤ 1048576) : i_FreeCards n h = some (BK false h) := by
  unfold i_FreeCards BK
  rw [i_IsHand_eq hn (by omega), ob_some]
  cases hh : hand h with
  | false => rfl
  | true => rw [i_outside_eq hn (HandL.of hh)]; rfl
def IC (h : List Card) : Bool × Bool := if hand h then (capB h, true) else (false, false)
theorem s_IsCap_eq {n : Nat} (hn : BIG ≤ n) {h : List Card} (hl : h.length ≤ 1048576) : s_IsCap n h = some (IC h) := by
  unfold s_IsCap IC
  rw [s_l2Hand_eq hn (by omega), ob_some]
  cases hh : hand h with
  | false => rfl
  | true => rw [s_l3Cap_eq hn hh]; rfl
theorem i_IsCap_eq {n : Nat} (hn : BIG ≤ n) {h : List Card} (hl : h.length ≤ 1048576) : i_IsCap n h = some (IC h) := by
  unfold i_IsCap IC
  rw [i_IsHand_eq hn (by omega), ob_some]
  cases hh : hand h with
  | false => rfl
  | true => rw [i_isCap_eq hn hh]; rfl
def FU (h : List Card) : Bool × Bool := if hand h then (capB h && decide (((outs h false).length : Int) = 0), true) else (false, false)
theorem s_IsFullCap_eq {n : Nat} (hn : BIG ≤ n) {h : List Card} (hl : h.length ≤ 1048576) : s_IsFullCap n h = some (FU h) := by
  unfold s_IsFullCap FU
  rw [s_l2Hand_eq hn (by omega), ob_some]
  cases hh : hand h with
  | false => rfl
  | true =>
    rw [s_l3Cap_eq hn hh]
    cases capB h with
    | false => rfl
    | true => rw [s_l3Cards_eq hn (HandL.of hh)]; rfl
theorem i_IsFullCap_eq {n : Nat} (hn : BIG ≤ n) {h : List Card} (hl : h.length ≤ 1048576) : i_IsFullCap n h = some (FU h) := by
  unfold i_IsFullCap FU
  rw [i_IsHand_eq hn (by omega), ob_some]
  cases hh : hand h with
  | false => rfl
  | true =>
    rw [i_isCap_eq hn hh]
    cases capB h with
    | false => rfl
    | true => rw [i_outside_eq hn (HandL.of hh)]; rfl
theorem s_capLines_eq {n : Nat} (hn : BIG ≤ n) {h : List Card} (H : HandL h) (c : Card) : fx (s_CapLines_L2 n) n (h, 0, c, []) = some (true, prs h c) := by
  have hl := H.len
  have hb := thr_len (h := h) (c := c)
  have hb2 : h.length * h.length ≤ 100 * 100 := Nat.mul_le_mul hl hl
  have := fx_app (B := s_CapLines_L2 n) h.length (fun i a => (h, (i : Int), c, a)) (pr2 h c) (fun a => some (true, a)) 1000000 (fun self i a hi hM => by
    simp only [s_CapLines_L2, lt_eq]
    rw [br_pos (decide_eq_true (show (i : Int) < (h.length : Int) by omega)), w64_succ (by omega)]
    refine fx_app (B := s_CapLines_L1 n self) h.length (fun j a => (h, (i : Int), (j : Int), c, a)) (pr1 h c i) (fun a => self (h, ((i + 1 : Nat) : Int), c, a)) 1000000 (fun self2 j a hj hM2 => ?_) (fun self2 a => by
      simp only [s_CapLines_L1, lt_eq]
      rw [br_neg (decide_eq_false (by omega)), w64_succ (by omega)]) n (i + 1) a (by omega) (big_gt hn (by omega)) (by unfold pr2 at hM; exact hM)
    simp only [s_CapLines_L1, lt_eq]
    rw [br_pos (decide_eq_true (show (j : Int) < (h.length : Int) by omega)), ckb_pos (inb_ok hi), ckb_pos (inb_ok hj), toNat_cast, toNat_cast, s_l2Line_eq hn c (gl_C H.c hi) (gl_C H.c hj), ob_some, w64_succ (k := j) (by omega)]
    unfold pr1 at hM2 ⊢
    cases hx : lineB (gl ⟨0, 0, 0, 0⟩ h i) (gl ⟨0, 0, 0, 0⟩ h j) c with
    | true =>
      rw [hx] at hM2
      simp only [if_true, List.length_singleton] at hM2
      rw [br_true, ckb_pos (apok_ok (by omega) (by omega))]; simp
    | false => simp) (fun self a => by
    simp only [s_CapLines_L2]
    rw [br_neg (decide_eq_false (by omega))]) n 0 [] (Nat.zero_le _) (big_gt hn (by omega)) (by unfold thr prs at hb; simp only [List.length_nil]; omega)
  rw [List.nil_append] at this
  exact this
def CL (h : List Card) (c : Card) : Bool × List (V2 Int) := if hand h && isC c && !h.contains c then (true, prs h c) else (false, [])
theorem s_CapLines_eq {n : Nat} (hn : BIG ≤ n) {h : List Card} (hl : h.length ≤ 1048576) (c : Card) : s_CapLines n h c = some (CL h c) := by
  unfold s_CapLines CL
  rw [s_l2Hand_eq hn (by omega), ob_some]
  cases hh : hand h with
  | false => rfl
  | true =>
    rw [s_l2Card_eq hn]
    cases hc : isC c with
    | false => rfl
    | true =>
      simp only [Bool.not_true, br_false, ob_some]
      rw [s_l2Has_eq hn (by omega)]
      cases hm : h.contains c with
      | true => rfl
      | false => exact s_capLines_eq hn (HandL.of hh) c
theorem i_CapLines_eq {n : Nat} (hn : BIG ≤ n) {h : List Card} (hl : h.length ≤ 1048576) (c : Card) : i_CapLines n h c = some (CL h c) := by
  unfold i_CapLines CL
  rw [i_IsHand_eq hn (by omega), ob_some]
  cases hh : hand h with
  | false => rfl
  | true =>
    rw [i_IsCard_eq hn]
    cases hc : isC c with
    | false => rfl
    | true =>
      simp only [Bool.not_true, br_false, ob_some]
      rw [i_has_eq hn (by omega)]
      cases hm : h.contains c with
      | true => rfl
      | false =>
        simp only [br_false, ob_some]
        rw [i_pairsFor_eq hn (HandL.of hh)]; rfl

/-! words of the laws -/
theorem v_vHas_eq {n : Nat} (hn : BIG ≤ n) {a : List Int} (hl : a.length ≤ 1000000) (x : Int) : v_vHas n a x = some (a.contains x) := by
  unfold v_vHas
  have := fx_cnt (B := v_vHas_L1 n) a.length (fun i => (a, x, (i : Int))) (fun _ => True) (fun i => some ((a.drop i).contains x)) (fun self i hi _ ih => by
    simp only [v_vHas_L1]
    by_cases h : i < a.length
    · rw [br_pos (decide_eq_true (show (i : Int) < (a.length : Int) by omega)), ckb_pos (inb_ok h), toNat_cast, gl_eq h, lt_eq, w64_succ (by omega)]
      rw [List.drop_eq_getElem_cons h, List.contains_cons]
      by_cases hc : a[i] = x
      · rw [br_pos (decide_eq_true hc)]; simp [hc]
      · rw [br_neg (decide_eq_false hc), ih h trivial]
        have : (x == a[i]) = false := by simpa [beq_eq_false_iff_ne] using fun e => hc (Eq.symm e)
        rw [this, Bool.false_or]
    · rw [br_neg (decide_eq_false (by omega)), List.drop_eq_nil_of_le (by omega)]; rfl) n 0 (Nat.zero_le _) trivial (big_gt hn (by omega))
  simpa using this
theorem v_vHands_eq {n : Nat} (hn : BIG ≤ n) {a b : List Card} (hl : a.length ≤ 9223372036854775806) : v_vHands n a b = some (decide (a = b)) := by
  unfold v_vHands
  by_cases hlen : a.length = b.length
  · have e0 : decide ((a.length : Int) = (b.length : Int)) = true := decide_eq_true (by omega)
    simp only [e0, Bool.not_true, br_false]
    have := fx_cnt (B := v_vHands_L1 n) a.length (fun i => (a, b, (i : Int))) (fun _ => True) (fun i => some (decide (a.drop i = b.drop i))) (fun self i hi _ ih => by
      simp only [v_vHands_L1]
      by_cases h : i < a.length
      · have e1 : decide ((i : Int) < (a.length : Int)) = true := decide_eq_true (by omega)
        simp only [e1, br_true, inb_ok h, inb_ok (show i < b.length by omega), ckb_true, toNat_cast, gl_eq h, gl_eq (show i < b.length by omega), lt_eq]
        rw [List.drop_eq_getElem_cons h, List.drop_eq_getElem_cons (show i < b.length by omega)]
        by_cases hc : a[i] = b[i]
        · simp only [eqd, hc, decide_true, Bool.not_true, br_false, List.cons.injEq, true_and]
          rw [w64_succ (by omega)]; exact ih h trivial
        · have hne : ¬ (a[i] :: a.drop (i + 1) = b[i] :: b.drop (i + 1)) := fun e => hc (List.cons.inj e).1
          rw [decide_eq_false hne]; unfold eqd; rw [decide_eq_false hc]; rfl
      · have e1 : decide ((i : Int) < (a.length : Int)) = false := decide_eq_false (by omega)
        simp only [e1, br_false]
        rw [List.drop_eq_nil_of_le (by omega), List.drop_eq_nil_of_le (by omega)]; simp) n 0 (Nat.zero_le _) trivial (big_gt hn (by omega))
    simpa using this
  · have e0 : decide ((a.length : Int) = (b.length : Int)) = false := decide_eq_false (by omega)
    simp only [e0, Bool.not_false, br_true]
    have : a ≠ b := fun h => hlen (by rw [h])
    simp [this]
theorem v_vPairs_eq {n : Nat} (hn : BIG ≤ n) {a b : List (V2 Int)} (hl : a.length ≤ 9223372036854775806) : v_vPairs n a b = some (decide (a = b)) := by
  unfold v_vPairs
  by_cases hlen : a.length = b.length
  · have e0 : decide ((a.length : Int) = (b.length : Int)) = true := decide_eq_true (by omega)
    simp only [e0, Bool.not_true, br_false]
    have := fx_cnt (B := v_vPairs_L1 n) a.length (fun i => (a, b, (i : Int))) (fun _ => True) (fun i => some (decide (a.drop i = b.drop i))) (fun self i hi _ ih => by
      simp only [v_vPairs_L1]
      by_cases h : i < a.length
      · have e1 : decide ((i : Int) < (a.length : Int)) = true := decide_eq_true (by omega)
        simp only [e1, br_true, inb_ok h, inb_ok (show i < b.length by omega), ckb_true, toNat_cast, gl_eq h, gl_eq (show i < b.length by omega), lt_eq]
        rw [List.drop_eq_getElem_cons h, List.drop_eq_getElem_cons (show i < b.length by omega)]
        by_cases hc : a[i] = b[i]
        · simp only [eqd, hc, decide_true, Bool.not_true, br_false, List.cons.injEq, true_and]
          rw [w64_succ (by omega)]; exact ih h trivial
        · have hne : ¬ (a[i] :: a.drop (i + 1) = b[i] :: b.drop (i + 1)) := fun e => hc (List.cons.inj e).1
          rw [decide_eq_false hne]; unfold eqd; rw [decide_eq_false hc]; rfl
      · have e1 : decide ((i : Int) < (a.length : Int)) = false := decide_eq_false (by omega)
        simp only [e1, br_false]
        rw [List.drop_eq_nil_of_le (by omega), List.drop_eq_nil_of_le (by omega)]; simp) n 0 (Nat.zero_le _) trivial (big_gt hn (by omega))
    simpa using this
  · have e0 : decide ((a.length : Int) = (b.length : Int)) = false := decide_eq_false (by omega)
    simp only [e0, Bool.not_false, br_true]
    have : a ≠ b := fun h => hlen (by rw [h])
    simp [this]

/-! greedy caps -/
def grK (h : List Card) : Nat → List Nat
  | 0 => []
  | k + 1 => if thr ((grK h k).map (gz h)) (gz h k) = 0 then grK h k ++ [k] else grK h k
theorem grK_lt (h : List Card) : ∀ k, ∀ i ∈ grK h k, i < k
  | 0, i, hi => by cases hi
  | k + 1, i, hi => by
    unfold grK at hi
    split at hi
    · rcases List.mem_append.1 hi with hi | hi
      · have := grK_lt h k i hi; omega
      · rw [List.mem_singleton] at hi; omega
    · have := grK_lt h k i hi; omega
theorem grK_pw (h : List Card) : ∀ k, (grK h k).Pairwise (· < ·)
  | 0 => List.Pairwise.nil
  | k + 1 => by
    unfold grK
    split
    · exact List.pairwise_append.2 ⟨grK_pw h k, List.pairwise_singleton _ _, fun a ha b hb => by rw [List.mem_singleton.1 hb]; exact grK_lt h k a ha⟩
    · exact grK_pw h k
theorem grK_len (h : List Card) : ∀ k, (grK h k).length ≤ k
  | 0 => Nat.le_refl _
  | k + 1 => by
    have := grK_len h k
    unfold grK
    split
    · rw [List.length_append, List.length_singleton]; omega
    · omega
theorem ix_hand {h : List Card} (H : HandL h) {I : List Nat} (hp : I.Pairwise (· < ·)) (hb : ∀ i ∈ I, i < h.length) : HandL (I.map (gz h)) := by
  have hc : AllC (I.map (gz h)) := fun c hc => by
    obtain ⟨i, hi, rfl⟩ := List.mem_map.1 hc
    exact gl_C H.c (hb i hi)
  have hnd : (I.map (gz h)).Nodup := by
    unfold List.Nodup
    rw [List.pairwise_map]
    exact List.Pairwise.imp_of_mem (fun {a b} ha hb' hlt e => by have := gz_inj H (hb a ha) (hb b hb') e; omega) hp
  exact ⟨hc, hnd, by have := nodup_len81 hnd hc; omega⟩
theorem s_l3Picked_eq {n : Nat} (hn : BIG ≤ n) (h : List Card) {I : List Nat} (hb : ∀ i ∈ I, i < h.length) (hl : I.length ≤ 1000000) : s_l3Picked n h (I.map fun (i : Nat) => (i : Int)) = some (I.map (gz h)) := by
  unfold s_l3Picked
  have := fx_app (B := s_l3Picked_L1 n) I.length (fun i a => (h, I.map (fun (i : Nat) => (i : Int)), (i : Int), a)) (fun k => [gz h (gl 0 I k)]) some 1000000 (fun self i a hi hM => by
    simp only [s_l3Picked_L1, lt_eq, List.length_map]
    have e : gl (0 : Int) (I.map fun (i : Nat) => (i : Int)) i = (I[i] : Int) := by rw [gl_eq (by rw [List.length_map]; exact hi), List.getElem_map]
    have e2 : gl 0 I i = I[i] := gl_eq hi
    simp only [List.length_singleton] at hM
    rw [br_pos (decide_eq_true (show (i : Int) < (I.length : Int) by omega)), ckb_pos (inb_ok hi), toNat_cast, e, ckb_pos (inb_ok (hb _ (List.getElem_mem hi))), ckb_pos (apok_ok (by omega) (by omega)), w64_succ (by omega), toNat_cast, e2]) (fun self a => by
    simp only [s_l3Picked_L1, List.length_map]
    rw [br_neg (decide_eq_false (by omega))]) n 0 [] (Nat.zero_le _) (big_gt hn (by omega)) (by
      have := flen (l := List.range' 0 (I.length - 0)) (f := fun k => [gz h (gl 0 I k)]) (M := 1) fun _ _ => Nat.le_refl _
      rw [List.length_range'] at this
      simp only [List.length_nil]; omega)
  rw [List.nil_append] at this
  refine this.trans ?_
  congr 1
  rw [← List.map_eq_flatMap]
  refine List.ext_getElem (by simp) fun i h1 h2 => ?_
  rw [List.length_map, List.length_range'] at h1
  rw [List.getElem_map, List.getElem_map, List.getElem_range']
  rw [gl_eq (by omega)]
  simp
def GC (h : List Card) : Bool × List Int := if hand h then (true, (grK h h.length).map fun (i : Nat) => (i : Int)) else (false, [])
theorem s_GreedyCap_eq {n : Nat} (hn : BIG ≤ n) {h : List Card} (hl : h.length ≤ 1048576) : s_GreedyCap n h = some (GC h) := by
  unfold s_GreedyCap GC
  rw [s_l2Hand_eq hn (by omega), ob_some]
  cases hh : hand h with
  | false => rfl
  | true =>
    have H := HandL.of hh
    have h27 := hand_len hh
    show fx _ _ _ = _
    have := fx_cnt (B := s_GreedyCap_L1 n) h.length (fun k => (h, (k : Int), (grK h k).map fun (i : Nat) => (i : Int))) (fun _ => True) (fun _ => some (true, (grK h h.length).map fun (i : Nat) => (i : Int))) (fun self k hk _ ih => by
      have hb : ∀ i ∈ grK h k, i < h.length := fun i hi => by have := grK_lt h k i hi; omega
      have hgl := grK_len h k
      simp only [s_GreedyCap_L1, lt_eq]
      by_cases hk2 : k < h.length
      · rw [br_pos (decide_eq_true (show (k : Int) < (h.length : Int) by omega)), s_l3Picked_eq hn h hb (by omega), ob_some, ckb_pos (inb_ok hk2), toNat_cast, s_l2Through_eq hn (ix_hand H (grK_pw h k) hb), ob_some, w64_succ (by omega), ← ih hk2 trivial]
        rw [grK]
        by_cases h0 : thr ((grK h k).map (gz h)) (gz h k) = 0
        · have e : decide (((thr ((grK h k).map (gz h)) (gl ⟨0, 0, 0, 0⟩ h k) : Nat) : Int) = 0) = true := by
            have : thr ((grK h k).map (gz h)) (gl ⟨0, 0, 0, 0⟩ h k) = 0 := h0
            rw [this]; rfl
          rw [e, br_true, if_pos h0, List.length_map, ckb_pos (apok_ok (by omega) (by omega)), List.map_append, List.map_singleton]
        · have e : decide (((thr ((grK h k).map (gz h)) (gl ⟨0, 0, 0, 0⟩ h k) : Nat) : Int) = 0) = false := by
            have : 0 < thr ((grK h k).map (gz h)) (gl ⟨0, 0, 0, 0⟩ h k) := Nat.pos_of_ne_zero h0
            exact decide_eq_false (by omega)
          rw [e, br_false, if_neg h0]
      · have : k = h.length := by omega
        subst this
        rw [br_neg (decide_eq_false (by omega))]) n 0 (Nat.zero_le _) trivial (big_gt hn (by omega))
    exact this
theorem i_GreedyCap_eq {n : Nat} (hn : BIG ≤ n) {h : List Card} (hl : h.length ≤ 1048576) : i_GreedyCap n h = some (GC h) := by
  unfold i_GreedyCap GC
  rw [i_IsHand_eq hn (by omega), ob_some]
  cases hh : hand h with
  | false => rfl
  | true =>
    have H := HandL.of hh
    have h27 := hand_len hh
    show fx _ _ _ = _
    have := fx_cnt (B := i_GreedyCap_L1 n) h.length (fun k => (h, (h.length : Int), (k : Int), (grK h k).map (fun (i : Nat) => (i : Int)), (grK h k).map (gz h))) (fun _ => True) (fun _ => some (true, (grK h h.length).map fun (i : Nat) => (i : Int))) (fun self k hk _ ih => by
      have hb : ∀ i ∈ grK h k, i < h.length := fun i hi => by have := grK_lt h k i hi; omega
      have hgl := grK_len h k
      simp only [i_GreedyCap_L1, lt_eq]
      by_cases hk2 : k < h.length
      · rw [br_pos (decide_eq_true (show (k : Int) < (h.length : Int) by omega)), ckb_pos (inb_ok hk2), toNat_cast, i_isBlocked_eq hn (ix_hand H (grK_pw h k) hb), ob_some, w64_succ (by omega), ← ih hk2 trivial]
        rw [grK]
        by_cases h0 : thr ((grK h k).map (gz h)) (gz h k) = 0
        · have e : (!decide (0 < thr ((grK h k).map (gz h)) (gl ⟨0, 0, 0, 0⟩ h k))) = true := by
            have : thr ((grK h k).map (gz h)) (gl ⟨0, 0, 0, 0⟩ h k) = 0 := h0
            rw [this]; rfl
          rw [e, br_true, if_pos h0, List.length_map, List.length_map, ckb_pos (apok_ok (by omega) (by omega)), ckb_pos (apok_ok (by omega) (by omega)), List.map_append, List.map_append, List.map_singleton, List.map_singleton]
        · have e : (!decide (0 < thr ((grK h k).map (gz h)) (gl ⟨0, 0, 0, 0⟩ h k))) = false := by
            have : 0 < thr ((grK h k).map (gz h)) (gl ⟨0, 0, 0, 0⟩ h k) := Nat.pos_of_ne_zero h0
            rw [decide_eq_true this]; rfl
          rw [e, br_false, if_neg h0]
      · have : k = h.length := by omega
        subst this
        rw [br_neg (decide_eq_false (by omega))]) n 0 (Nat.zero_le _) trivial (big_gt hn (by omega))
    exact this

/-! drawn caps -/
theorem FC_len (h : List Card) : (FC h).2.length ≤ 81 := by
  by_cases hh : (hand h && capB h) = true
  · have e : FC h = (true, fillD h) := by unfold FC; rw [if_pos hh]
    rw [e]
    rw [Bool.and_eq_true] at hh
    have D := fillD_ok (HandL.of hh.1) ((capB_iff (HandL.of hh.1)).1 hh.2)
    generalize fillD h = d at D
    exact nodup_len81 D.ss.nodup D.c
  · have e : FC h = (false, []) := by unfold FC; rw [if_neg hh]
    rw [e]; simp
theorem s_l2Drop_ok {n : Nat} {h : List Card} (hl : h.length ≤ 1000) {i : Int} (h0 : 0 ≤ i) (h1 : i < h.length) : s_l2Drop n h i = some (h.take i.toNat ++ h.drop (i.toNat + 1)) := by
  obtain ⟨k, rfl⟩ : ∃ k : Nat, i = k := ⟨i.toNat, by omega⟩
  unfold s_l2Drop
  have e1 : sub h 0 k = h.take k := by unfold sub; simp
  have e2 : sub h (k + 1) h.length = h.drop (k + 1) := by unfold sub; rw [List.take_of_length_le (by simp)]
  rw [toNat_cast, ckb_pos (slb_ok (by omega) (by omega) (by omega)), e1, s_l2Own_eq (by rw [List.length_take]; omega), ob_some, lt_eq, w64_succ (by omega), ckb_pos (slb_ok (by omega) (by omega) (by omega)), toNat_cast, e2,
    ckb_pos (apok_ok (by rw [List.length_take, List.length_drop]; omega) (by rw [List.length_take, List.length_drop]; omega))]
def CapR (m : Nat) (o : Opt (Cu × List Card)) : Prop := ∃ c' h, o = some (c', h) ∧ h.length ≤ 81 ∧ CuOK m c'
theorem cap3_J1 {n : Nat} (hn : BIG ≤ n) {m : Nat} {c : Cu} (hc : CuOK m c) (hm : m < 4611686018427300000) {h : List Card} (hl : h.length ≤ 29) (b : Bool) (hb : b = false → hand h = true) : CapR (m + 20) (s_Cur_cap3'p_J1 n (b, c, h)) := by
  unfold s_Cur_cap3'p_J1
  cases b with
  | true => exact ⟨c, h, rfl, by omega, hc.mono (by omega)⟩
  | false =>
    have hh := hb rfl
    have e : (GC h).2 = (grK h h.length).map fun (i : Nat) => (i : Int) := by unfold GC; rw [hh]; rfl
    have hgl := grK_len h h.length
    simp only [br_false]
    rw [s_GreedyCap_eq hn (by omega), ob_some, e, s_l3Picked_eq hn h (grK_lt h h.length) (by omega), ob_some]
    obtain ⟨x, c1, e1, k1⟩ := one_ok n hc (by omega) (a := 4) (by omega)
    rw [e1, ob_some]
    have hpl : ((grK h h.length).map (gz h)).length ≤ 29 := by rw [List.length_map]; omega
    cases x with
    | false => exact ⟨_, _, rfl, by omega, k1.mono (by omega)⟩
    | true =>
      simp only [br_true]
      have hfl := FC_len ((grK h h.length).map (gz h))
      rw [s_FillCap_eq hn (by omega), ob_some]
      obtain ⟨y, c2, e2, k2⟩ := one_ok n k1 (by omega) (a := 2) (by omega)
      rw [e2, ob_some]
      generalize (FC ((grK h h.length).map (gz h))).2 = d at hfl
      cases y with
      | false => exact ⟨_, _, rfl, hfl, k2.mono (by omega)⟩
      | true =>
        simp only [br_true, ob_some]
        rw [br_dec]
        split
        · obtain ⟨i, c3, e3, k3, i0, i1⟩ := pick_ok n k2 (by omega) (a := (d.length : Int)) (by omega)
          rw [e3, ob_some, s_l2Drop_ok (by omega) i0 i1, ob_some]
          exact ⟨_, _, rfl, by rw [List.length_append, List.length_take, List.length_drop]; omega, k3.mono (by omega)⟩
        · exact ⟨_, _, rfl, hfl, k2.mono (by omega)⟩
theorem cap3_ok {n : Nat} (hn : BIG ≤ n) {m : Nat} {c : Cu} (hc : CuOK m c) (hm : m + 300 < 4611686018427300000) : CapR (m + 300) (s_Cur_cap3'p n c) := by
  unfold s_Cur_cap3'p
  obtain ⟨c1, h, e1, hl, k1⟩ := hand_ok hn hc (by omega)
  rw [e1, ob_some]
  simp only []
  rw [s_l2Hand_eq hn (by omega), ob_some]
  cases hh : hand h with
  | false =>
    rw [Bool.not_false, br_true]
    obtain ⟨c', h', e, hl', k⟩ := cap3_J1 hn k1 (by omega) hl true (fun e => by cases e)
    exact ⟨c', h', e, hl', k.mono (by omega)⟩
  | true =>
    rw [Bool.not_true, br_false]
    obtain ⟨x, c2, e2, k2⟩ := one_ok n k1 (by omega) (a := 4) (by omega)
    rw [e2, ob_some]
    obtain ⟨c', h', e, hl', k⟩ := cap3_J1 hn k2 (by omega) hl x (fun _ => hh)
    exact ⟨c', h', e, hl', k.mono (by omega)⟩
theorem cardOf_J1 {n : Nat} {m : Nat} {c : Cu} (hc : CuOK m c) (hm : m < 4611686018427300000) {h : List Card} (b : Bool) (hb : b = true → 0 < h.length) (z : Card) : ∃ r c', s_Cur_cardOf'pl_J1 n (h, b, c, z) = some (r, c') ∧ CuOK (m + 8) c' := by
  unfold s_Cur_cardOf'pl_J1
  cases b with
  | true =>
    have := hb rfl
    simp only [br_true]
    obtain ⟨i, c1, e1, k1, i0, i1⟩ := pick_ok n hc (by omega) (a := (h.length : Int)) (by omega)
    rw [e1, ob_some, ckb_pos (inb_pos i0 i1)]
    exact ⟨_, _, rfl, k1.mono (by omega)⟩
  | false =>
    obtain ⟨r, c1, e1, k1⟩ := card_ok n hc (by omega)
    simp only [br_false]
    rw [e1, ob_some]
    exact ⟨_, _, rfl, k1⟩
theorem cardOf_ok {n : Nat} {m : Nat} {c : Cu} (hc : CuOK m c) (hm : m + 10 < 4611686018427300000) (h : List Card) : ∃ r c', s_Cur_cardOf'pl n h c = some (r, c') ∧ CuOK (m + 10) c' := by
  unfold s_Cur_cardOf'pl
  rw [br_dec]
  split
  · obtain ⟨x, c1, e1, k1⟩ := one_ok n hc (by omega) (a := 3) (by omega)
    rw [e1, ob_some]
    obtain ⟨r, c2, e, k⟩ := cardOf_J1 (n := n) k1 (by omega) (h := h) (!x) (fun _ => by omega) ⟨0, 0, 0, 0⟩
    exact ⟨r, c2, e, k⟩
  · obtain ⟨r, c2, e, k⟩ := cardOf_J1 (n := n) hc (by omega) (h := h) false (fun h => by cases h) ⟨0, 0, 0, 0⟩
    exact ⟨r, c2, e, k.mono (by omega)⟩
end Go.Pl
namespace Go.Pl
open Go Go.Tv Go.RowKit
set_option linter.unusedVariables false
set_option linter.unusedSimpArgs false

/-! pickings of lines, in the order of their first lines -/
def fr (I : List Ln) (x : Ln) : Bool := !I.any fun b => meets b x
def Q : List Ln → List Ln → List (List Ln)
  | [], _ => []
  | x :: ls, I => (if fr I x = true then (I ++ [x]) :: Q ls (I ++ [x]) else []) ++ Q ls I
theorem Q_len : ∀ (ls I : List Ln), (Q ls I).length + 1 ≤ 2 ^ ls.length
  | [], I => Nat.le_refl _
  | x :: ls, I => by
    have h1 := Q_len ls (I ++ [x])
    have h2 := Q_len ls I
    rw [Q, List.length_append, List.length_cons, Nat.pow_succ]
    split
    · rw [List.length_cons]; omega
    · rw [List.length_nil]; omega
theorem Q_gt : ∀ {ls I L : List Ln}, L ∈ Q ls I → I.length < L.length
  | [], I, L, h => by cases h
  | x :: ls, I, L, h => by
    rw [Q, List.mem_append] at h
    rcases h with h | h
    · split at h
      · rcases List.mem_cons.1 h with rfl | h
        · rw [List.length_append, List.length_singleton]; omega
        · have := Q_gt h
          rw [List.length_append, List.length_singleton] at this; omega
      · cases h
    · exact Q_gt h
theorem contP_eq {n : Nat} (hn : BIG ≤ n) {l : List Ln} (hl : l.length ≤ 9223372036854775807) (a : Ln) : slices_ContainsFunc_SA3_A3_'l_i_pickings_1p n l a = some (l.any fun b => meets b a, a) := by
  unfold slices_ContainsFunc_SA3_A3_'l_i_pickings_1p slices_IndexFunc_SA3_A3_'l_i_pickings_1p
  have := fx_find (B := slices_IndexFunc_SA3_A3_'l_i_pickings_1p_L1 n) l (fun i => (l, (l.length : Int), (i : Int), a)) (fun b => meets b a) (fun i => some ((i : Int), a)) (some (-1, a)) (fun self i hi => ?_) (fun self => ?_) n (big_gt hn (by omega))
  · have e : ((0 : Nat) : Int) = 0 := rfl
    simp only [e] at this
    rw [this, ← findIdx?_any]; cases l.findIdx? _ <;> simp
  · have e1 : decide ((i : Int) < (l.length : Int)) = true := decide_eq_true (by omega)
    obtain ⟨k, h1, h2⟩ := i_common_pos hn a l[i]
    simp only [slices_IndexFunc_SA3_A3_'l_i_pickings_1p_L1, e1, br_true, inb_ok hi, ckb_true, toNat_cast, gl_eq hi, lt_eq, i_pickings_1'p, h1, ob_some, h2]
    rw [w64_succ (by omega), meets_comm]
    cases meets l[i] a <;> simp
  · have e1 : decide ((l.length : Int) < (l.length : Int)) = false := decide_eq_false (by omega)
    simp only [slices_IndexFunc_SA3_A3_'l_i_pickings_1p_L1, e1, br_false]
theorem subL_full (I : List Ln) : sub I 0 I.length = I := by unfold sub; simp
theorem subL_drop (I : List Ln) (a : Nat) : sub I a I.length = I.drop a := by unfold sub; rw [List.take_of_length_le (by simp)]
def cntP (a4 : Int) (L : List Ln) : Bool := decide ((L.length : Int) = a4)
theorem pc_R {n : Nat} (hn : BIG ≤ n) (a4 : Int) : ∀ (K : Nat) (ls I : List Ln) (c : Nat), ls.length < K → ls.length ≤ 40 → I.length + ls.length ≤ 1000 → c + 2 ^ ls.length ≤ 2 ^ 60 →
    fx (i_pickings'll_i_countPickings_1pp_R n) K (ls, I, a4, (c : Int)) = some (a4, ((c + (I :: Q ls I).countP (cntP a4) : Nat) : Int))
  | 0, _, _, _, hK, _, _, _ => by omega
  | K + 1, ls, I, c, hK, h40, hI, hc => by
    rw [fx_succ]
    simp only [i_pickings'll_i_countPickings_1pp_R]
    have hp0 : ∀ m : Nat, 1 ≤ 2 ^ m := fun m => Nat.one_le_two_pow
    have hv : i_countPickings_1'lpp n I a4 (c : Int) = some (a4, ((c + if cntP a4 I = true then 1 else 0 : Nat) : Int)) := by
      unfold i_countPickings_1'lpp cntP
      by_cases e : (I.length : Int) = a4
      · rw [decide_eq_true e, br_true, lt_eq, w64_succ (by have := hp0 ls.length; omega)]; rfl
      · rw [decide_eq_false e, br_false]; rfl
    rw [hv, ob_some]
    simp only []
    have := fx_up (B := i_pickings'll_i_countPickings_1pp_L1 n (fx (i_pickings'll_i_countPickings_1pp_R n) K)) ls.length (fun i (c : Nat) => (ls, I, ls, (ls.length : Int), (i : Int), a4, (c : Int))) (fun i c => c + 2 ^ (ls.length - i) ≤ 2 ^ 60 + 1) (fun i c => some (a4, ((c + (Q (ls.drop i) I).countP (cntP a4) : Nat) : Int))) (fun self i c' hi hb ih => by
      simp only [i_pickings'll_i_countPickings_1pp_L1, lt_eq]
      by_cases h1 : i < ls.length
      · obtain ⟨m, hm⟩ : ∃ m, ls.length - i = m + 1 := ⟨ls.length - i - 1, by omega⟩
        have hm' : ls.length - (i + 1) = m := by omega
        have hdl : (ls.drop (i + 1)).length = m := by rw [List.length_drop]; omega
        rw [hm, Nat.pow_succ] at hb
        rw [hm'] at ih
        have ih := fun a' ha => ih a' h1 ha
        have l1 := Q_len (ls.drop (i + 1)) (I ++ [ls[i]])
        rw [hdl] at l1
        rw [br_pos (decide_eq_true (show (i : Int) < (ls.length : Int) by omega)), ckb_pos (inb_ok h1), toNat_cast, gl_eq h1, contP_eq hn (by omega), ob_some, List.drop_eq_getElem_cons h1, Q, w64_succ (by omega)]
        unfold fr
        simp only []
        cases hf : I.any (fun b => meets b ls[i]) with
        | true =>
          simp only [Bool.not_true, br_false, Bool.false_eq_true, if_false, List.nil_append]
          exact ih c' (by have := hp0 m; omega)
        | false =>
          have hr := pc_R hn a4 K (ls.drop (i + 1)) (I ++ [ls[i]]) c' (by omega) (by omega) (by rw [List.length_append, List.length_singleton]; omega) (by rw [hdl]; have := hp0 m; omega)
          have hcp : ((I ++ [ls[i]]) :: Q (ls.drop (i + 1)) (I ++ [ls[i]])).countP (cntP a4) ≤ 2 ^ m := Nat.le_trans List.countP_le_length (by rw [List.length_cons]; omega)
          have e1 : cand (slb 0 (I.length : Int) I.length) (decide True) = true := by rw [slb_ok (by omega) (by omega) (by omega)]; rfl
          have e2 : cand (apok 24 (I.length + 1)) (cor I.isEmpty true) = true := by
            rw [apok_ok (by omega) (by omega)]
            cases I.isEmpty <;> rfl
          simp only [Bool.not_false, br_true, if_true]
          rw [ckb_pos (slb_ok (by omega) (by omega) (by omega)), ckb_pos e1, subL_full, ckb_pos e2, toNat_cast, subL_drop, hr, ob_some]
          simp only []
          rw [ih _ (by omega), List.countP_append, Nat.add_assoc]
      · have : i = ls.length := by omega
        subst this
        rw [br_neg (decide_eq_false (by omega)), List.drop_length]; rfl) n 0 (c + if cntP a4 I = true then 1 else 0) (Nat.zero_le _) (by rw [Nat.sub_zero]; split <;> omega) (big_gt hn (by omega))
    refine Eq.trans this ?_
    rw [List.drop_zero, List.countP_cons]
    congr 2
    split <;> omega
def bsl (b L : List Ln) : List Ln := if b.length < L.length then L else b
theorem pf_R {n : Nat} (hn : BIG ≤ n) : ∀ (K : Nat) (ls I b : List Ln), ls.length < K → ls.length ≤ 40 → I.length + ls.length ≤ 1000 →
    fx (i_pickings'll_i_firstPicking_1p_o_R n) K (ls, I, b) = some ((I :: Q ls I).foldl bsl b)
  | 0, _, _, _, hK, _, _ => by omega
  | K + 1, ls, I, b, hK, h40, hI => by
    rw [fx_succ]
    simp only [i_pickings'll_i_firstPicking_1p_o_R]
    have hcl : slices_Clone_SA3_A3_ n I = some I := by
      unfold slices_Clone_SA3_A3_
      refine amb_eq ?_ fun he => ?_
      · rw [apok_ok (by omega) (by omega)]; rfl
      · have : I = [] := by simpa using he
        subst this; rfl
    have hv : i_firstPicking_1'lp_o n I b = some (bsl b I) := by
      unfold i_firstPicking_1'lp_o bsl
      by_cases e : b.length < I.length
      · rw [br_pos (decide_eq_true (by omega)), if_pos e, hcl]; rfl
      · rw [br_neg (decide_eq_false (by omega)), if_neg e]
    rw [hv, ob_some]
    have := fx_up (B := i_pickings'll_i_firstPicking_1p_o_L1 n (fx (i_pickings'll_i_firstPicking_1p_o_R n) K)) ls.length (fun i (b : List Ln) => (ls, I, ls, (ls.length : Int), (i : Int), b)) (fun _ _ => True) (fun i b => some ((Q (ls.drop i) I).foldl bsl b)) (fun self i b' hi _ ih => by
      simp only [i_pickings'll_i_firstPicking_1p_o_L1, lt_eq]
      by_cases h1 : i < ls.length
      · have hdl : (ls.drop (i + 1)).length = ls.length - (i + 1) := List.length_drop
        have ih := fun a' => ih a' h1 trivial
        rw [br_pos (decide_eq_true (show (i : Int) < (ls.length : Int) by omega)), ckb_pos (inb_ok h1), toNat_cast, gl_eq h1, contP_eq hn (by omega), ob_some, List.drop_eq_getElem_cons h1, Q, w64_succ (by omega)]
        unfold fr
        simp only []
        cases hf : I.any (fun b => meets b ls[i]) with
        | true =>
          simp only [Bool.not_true, br_false, Bool.false_eq_true, if_false, List.nil_append]
          exact ih b'
        | false =>
          have hr := pf_R hn K (ls.drop (i + 1)) (I ++ [ls[i]]) b' (by omega) (by omega) (by rw [List.length_append, List.length_singleton]; omega)
          have e1 : cand (slb 0 (I.length : Int) I.length) (decide True) = true := by rw [slb_ok (by omega) (by omega) (by omega)]; rfl
          have e2 : cand (apok 24 (I.length + 1)) (cor I.isEmpty true) = true := by
            rw [apok_ok (by omega) (by omega)]
            cases I.isEmpty <;> rfl
          simp only [Bool.not_false, br_true, if_true]
          rw [ckb_pos (slb_ok (by omega) (by omega) (by omega)), ckb_pos e1, subL_full, ckb_pos e2, toNat_cast, subL_drop, hr, ob_some, ih, List.foldl_append]
      · have : i = ls.length := by omega
        subst this
        rw [br_neg (decide_eq_false (by omega)), List.drop_length]; rfl) n 0 (bsl b I) (Nat.zero_le _) trivial (big_gt hn (by omega))
    refine Eq.trans this ?_
    rw [List.drop_zero, List.foldl_cons]
theorem bsl_assoc (b c d : List Ln) : bsl (bsl b c) d = bsl b (bsl c d) := by
  unfold bsl
  by_cases h1 : b.length < c.length
  · by_cases h2 : c.length < d.length
    · simp [h1, h2, show b.length < d.length by omega]
    · simp [h1, h2]
  · by_cases h2 : c.length < d.length
    · simp [h1, h2]
    · simp [h1, h2, show ¬ b.length < d.length by omega]
theorem bsl_fold : ∀ (l : List (List Ln)) (b c : List Ln), l.foldl bsl (bsl b c) = bsl b (l.foldl bsl c)
  | [], _, _ => rfl
  | d :: l, b, c => by rw [List.foldl_cons, List.foldl_cons, bsl_assoc, bsl_fold l]
theorem bsl_max : ∀ (l : List (List Ln)) (b : List Ln), (l.foldl bsl b = b ∨ l.foldl bsl b ∈ l) ∧ b.length ≤ (l.foldl bsl b).length ∧ ∀ L ∈ l, L.length ≤ (l.foldl bsl b).length
  | [], b => ⟨.inl rfl, Nat.le_refl _, fun L hL => by cases hL⟩
  | d :: l, b => by
    obtain ⟨h1, h2, h3⟩ := bsl_max l (bsl b d)
    rw [List.foldl_cons]
    have hb : b.length ≤ (bsl b d).length ∧ d.length ≤ (bsl b d).length := by unfold bsl; split <;> omega
    refine ⟨?_, by omega, fun L hL => ?_⟩
    · rcases h1 with h1 | h1
      · rw [h1]
        unfold bsl
        split
        · exact .inr List.mem_cons_self
        · exact .inl rfl
      · exact .inr (List.mem_cons_of_mem _ h1)
    · rcases List.mem_cons.1 hL with rfl | hL
      · omega
      · exact h3 L hL
theorem sb_R {n : Nat} (hn : BIG ≤ n) {ls : List Ln} (h40 : ls.length ≤ 40) : ∀ (K j : Nat) (I : List Ln), j ≤ ls.length → I.length ≤ j → ls.length - j < K →
    fx (s_l7Best'lk_R n) K (ls, I, (j : Int)) = some ((Q (ls.drop j) I).foldl bsl I)
  | 0, _, _, _, _, hK => by omega
  | K + 1, j, I, hj, hI, hK => by
    rw [fx_succ]
    simp only [s_l7Best'lk_R]
    have := fx_up (B := s_l7Best'lk_L1 n (fx (s_l7Best'lk_R n) K)) ls.length (fun i (b : List Ln) => (ls, I, b, (i : Int))) (fun i _ => j ≤ i) (fun i b => some ((Q (ls.drop i) I).foldl bsl b)) (fun self i b' hi hji ih => by
      simp only [s_l7Best'lk_L1, lt_eq]
      by_cases h1 : i < ls.length
      · have ih := fun a' => ih a' h1 (by omega)
        rw [br_pos (decide_eq_true (show (i : Int) < (ls.length : Int) by omega)), ckb_pos (inb_ok h1), toNat_cast, gl_eq h1, s_l7Free_eq hn (by omega), ob_some, List.drop_eq_getElem_cons h1, Q, w64_succ (by omega)]
        unfold fr
        cases hf : I.any (fun b => meets b ls[i]) with
        | true =>
          simp only [Bool.not_true, Bool.not_false, br_true, Bool.false_eq_true, if_false, List.nil_append]
          exact ih b'
        | false =>
          have hr := sb_R hn h40 K (i + 1) (I ++ [ls[i]]) (by omega) (by rw [List.length_append, List.length_singleton]; omega) (by omega)
          simp only [Bool.not_false, Bool.not_true, br_false, if_true]
          rw [ckb_pos (apok_ok (by omega) (by omega)), ckb_pos (inb_ok h1), ckb_pos (apok_ok (by omega) (by omega)), hr, ob_some, List.foldl_append, List.foldl_cons, bsl_fold]
          generalize (Q (ls.drop (i + 1)) (I ++ [ls[i]])).foldl bsl (I ++ [ls[i]]) = r
          unfold bsl
          by_cases hlt : b'.length < r.length
          · rw [br_pos (decide_eq_true (by omega)), if_pos hlt]; exact ih r
          · rw [br_neg (decide_eq_false (by omega)), if_neg hlt]; exact ih b'
      · have : i = ls.length := by omega
        subst this
        rw [br_neg (decide_eq_false (by omega)), List.drop_length]; rfl) n j I hj (Nat.le_refl _) (big_gt hn (by omega))
    exact this
theorem sc_R {n : Nat} (hn : BIG ≤ n) {ls : List Ln} (h40 : ls.length ≤ 40) : ∀ (K j : Nat) (I : List Ln) (l : Nat), j ≤ ls.length → I.length ≤ j → l ≤ 15 → ls.length - j < K →
    fx (s_l7Count_R n) K (ls, I, (j : Int), (l : Int)) = some (((I :: Q (ls.drop j) I).countP fun L => decide (L.length = I.length + l) : Nat) : Int)
  | 0, _, _, _, _, _, _, hK => by omega
  | K + 1, j, I, 0, hj, hI, hl, hK => by
    rw [fx_succ]
    simp only [s_l7Count_R]
    rw [show decide (((0 : Nat) : Int) = 0) = true from rfl, br_true, List.countP_cons]
    have : (Q (ls.drop j) I).countP (fun L => decide (L.length = I.length + 0)) = 0 := List.countP_eq_zero.2 fun L hL => by
      have := Q_gt hL
      simp; omega
    rw [this]; simp
  | K + 1, j, I, l + 1, hj, hI, hl, hK => by
    rw [fx_succ]
    simp only [s_l7Count_R]
    rw [show decide (((l + 1 : Nat) : Int) = 0) = false from decide_eq_false (by omega), br_false]
    have hp0 : ∀ m : Nat, 1 ≤ 2 ^ m := fun m => Nat.one_le_two_pow
    have h240 : 2 ^ (ls.length - j) ≤ 2 ^ 40 := Nat.pow_le_pow_right (by omega) (by omega)
    have := fx_up (B := s_l7Count_L1 n (fx (s_l7Count_R n) K)) ls.length (fun i (c : Nat) => (ls, I, ((l + 1 : Nat) : Int), (c : Int), (i : Int))) (fun i c => j ≤ i ∧ c + 2 ^ (ls.length - i) ≤ 2 ^ 60) (fun i c => some ((c + (Q (ls.drop i) I).countP (fun L => decide (L.length = I.length + (l + 1))) : Nat) : Int)) (fun self i c' hi hJ ih => by
      obtain ⟨hji, hb⟩ := hJ
      simp only [s_l7Count_L1, lt_eq]
      by_cases h1 : i < ls.length
      · obtain ⟨m, hm⟩ : ∃ m, ls.length - i = m + 1 := ⟨ls.length - i - 1, by omega⟩
        have hm' : ls.length - (i + 1) = m := by omega
        have hdl : (ls.drop (i + 1)).length = m := by rw [List.length_drop]; omega
        rw [hm, Nat.pow_succ] at hb
        rw [hm'] at ih
        have ih := fun a' ha => ih a' h1 ⟨by omega, ha⟩
        have l1 := Q_len (ls.drop (i + 1)) (I ++ [ls[i]])
        rw [hdl] at l1
        rw [br_pos (decide_eq_true (show (i : Int) < (ls.length : Int) by omega)), ckb_pos (inb_ok h1), toNat_cast, gl_eq h1, s_l7Free_eq hn (by omega), ob_some, List.drop_eq_getElem_cons h1, Q, w64_succ (k := i) (by omega)]
        unfold fr
        cases hf : I.any (fun b => meets b ls[i]) with
        | true =>
          simp only [Bool.not_true, br_false, Bool.false_eq_true, if_false, List.nil_append]
          exact ih c' (by have := hp0 m; omega)
        | false =>
          have hr := sc_R hn h40 K (i + 1) (I ++ [ls[i]]) l (by omega) (by rw [List.length_append, List.length_singleton]; omega) (by omega) (by omega)
          rw [List.length_append, List.length_singleton, show I.length + 1 + l = I.length + (l + 1) by omega] at hr
          have hcp : ((I ++ [ls[i]]) :: Q (ls.drop (i + 1)) (I ++ [ls[i]])).countP (fun L => decide (L.length = I.length + (l + 1))) ≤ 2 ^ m := Nat.le_trans List.countP_le_length (by rw [List.length_cons]; omega)
          simp only [Bool.not_false, br_true, if_true]
          rw [ckb_pos (apok_ok (by omega) (by omega)), ckb_pos (inb_ok h1), ckb_pos (apok_ok (by omega) (by omega)), show w64 (((l + 1 : Nat) : Int) - 1) = (l : Int) by rw [w64_id (by omega)]; omega, hr, ob_some, List.countP_append]
          generalize ((I ++ [ls[i]]) :: Q (ls.drop (i + 1)) (I ++ [ls[i]])).countP (fun L => decide (L.length = I.length + (l + 1))) = q at hcp
          have e2 : w64 ((c' : Int) + (q : Int)) = ((c' + q : Nat) : Int) := by rw [w64_id (by omega)]; omega
          rw [e2, ih (c' + q) (by omega), Nat.add_assoc]
      · have : i = ls.length := by omega
        subst this
        rw [br_neg (decide_eq_false (by omega)), List.drop_length]; rfl) n j 0 hj ⟨Nat.le_refl _, by omega⟩ (big_gt hn (by omega))
    refine Eq.trans this ?_
    rw [Nat.zero_add, List.countP_cons]
    have : decide (I.length = I.length + (l + 1)) = false := decide_eq_false (by omega)
    rw [this]; simp
end Go.Pl
namespace Go.Pl
open Go Go.Tv Go.RowKit
set_option linter.unusedVariables false
set_option linter.unusedSimpArgs false

theorem contains3_eq {n : Nat} (hn : BIG ≤ n) {L : List (V3 Int)} (hl : L.length ≤ 1000000) (x : V3 Int) : slices_Contains_SA3_A3_ n L x = some (L.contains x) := by
  unfold slices_Contains_SA3_A3_ slices_Index_SA3_A3_
  have := fx_find (B := slices_Index_SA3_A3__L1 n) L (fun i => (L, (L.length : Int), (i : Int), x)) (fun y => decide (y = x)) (fun i => some (i : Int)) (some (-1)) (fun self i hi => ?_) (fun self => ?_) n (big_gt hn (by omega))
  · have e0 : fx (slices_Index_SA3_A3__L1 n) n (L, (L.length : Int), 0, x) = _ := this
    rw [e0]
    have hh : (L.findIdx? fun y => decide (y = x)).isSome = L.contains x := by
      rw [List.findIdx?_isSome, Bool.eq_iff_iff, List.any_eq_true, List.contains_iff_mem]
      constructor
      · rintro ⟨y, h1, h2⟩; rw [← of_decide_eq_true h2]; exact h1
      · intro h; exact ⟨x, h, decide_eq_true rfl⟩
    rw [← hh]
    cases L.findIdx? fun y => decide (y = x) with
    | none => rfl
    | some i => rw [ob_some, decide_eq_true (by omega)]; rfl
  · simp only [slices_Index_SA3_A3__L1, lt_eq]
    rw [br_pos (decide_eq_true (show (i : Int) < (L.length : Int) by omega)), ckb_pos (inb_ok hi), toNat_cast, gl_eq hi, w64_succ (by omega), eqd]
    by_cases hc : L[i] = x
    · rw [if_pos (by simp [hc])]; simp [hc]
    · rw [if_neg (by simp [hc])]
      rw [show decide (x = L[i]) = false from decide_eq_false (fun e => hc e.symm), br_false]
  · simp only [slices_Index_SA3_A3__L1]
    rw [br_neg (decide_eq_false (by omega))]
theorem s_l7Has_eq {n : Nat} (hn : BIG ≤ n) {L : List (V3 Int)} (hl : L.length ≤ 1000000) (x : V3 Int) : s_l7Has n L x = some (L.contains x) := by
  unfold s_l7Has
  have := fx_find (B := s_l7Has_L1 n) L (fun i => (L, (i : Int), x)) (fun y => decide (y = x)) (fun i => some true) (some false) (fun self i hi => ?_) (fun self => ?_) n (big_gt hn (by omega))
  · refine Eq.trans this ?_
    have hh : (L.findIdx? fun y => decide (y = x)).isSome = L.contains x := by
      rw [List.findIdx?_isSome, Bool.eq_iff_iff, List.any_eq_true, List.contains_iff_mem]
      constructor
      · rintro ⟨y, h1, h2⟩; rw [← of_decide_eq_true h2]; exact h1
      · intro h; exact ⟨x, h, decide_eq_true rfl⟩
    rw [← hh]
    cases L.findIdx? fun y => decide (y = x) <;> rfl
  · simp only [s_l7Has_L1, lt_eq]
    rw [br_pos (decide_eq_true (show (i : Int) < (L.length : Int) by omega)), ckb_pos (inb_ok hi), toNat_cast, gl_eq hi, w64_succ (by omega), eqd]
    by_cases hc : L[i] = x
    · rw [if_pos (by simp [hc])]; simp [hc]
    · rw [if_neg (by simp [hc]), show decide (L[i] = x) = false from decide_eq_false hc, br_false]
  · simp only [s_l7Has_L1]
    rw [br_neg (decide_eq_false (by omega))]
theorem ss_sub {h d : List Card} (hs : SS h) (hd : d.Sublist h) : SS d := List.Pairwise.sublist hd hs
end Go.Pl
namespace Go.Pl
open Go Go.Tv Go.RowKit
set_option linter.unusedVariables false
set_option linter.unusedSimpArgs false

/-! pickings -/
def bef (a b : Ln) : Bool := if a.x0 = b.x0 then (if a.x1 = b.x1 then decide (a.x2 < b.x2) else decide (a.x1 < b.x1)) else decide (a.x0 < b.x0)
theorem s_l7Before_eq {n : Nat} (hn : BIG ≤ n) (a b : Ln) : s_l7Before n a b = some (bef a b) := by
  obtain ⟨k, rfl⟩ : ∃ k, n = k + 5 := ⟨n - 5, by unfold BIG at hn; omega⟩
  unfold s_l7Before bef
  simp only [fx_succ, s_l7Before_L1, lt_eq]
  by_cases h0 : a.x0 = b.x0
  · by_cases h1 : a.x1 = b.x1
    · by_cases h2 : a.x2 = b.x2 <;> simp [h0, h1, h2, inb, V3.get, show w64 1 = 1 from by decide, show w64 (1 + 1) = 2 from by decide, show w64 (2 + 1) = 3 from by decide]
    · simp [h0, h1, inb, V3.get, show w64 1 = 1 from by decide]
  · simp [h0, inb, V3.get]
theorem cmp_eq (n : Nat) (x y : Int) : cmp_Compare_int_ n x y = some (if x < y then -1 else if y < x then 1 else 0) := by
  unfold cmp_Compare_int_ cmp_isNaN_int_
  by_cases h1 : x < y
  · simp [h1]
  · by_cases h2 : y < x <;> simp [h1, h2]
theorem compare_eq {n : Nat} (hn : BIG ≤ n) (a b : Ln) : ∃ v, slices_Compare_Sint_int_ n (V3.els a) (V3.els b) = some v ∧ decide (0 ≤ v) = !bef a b := by
  obtain ⟨k, rfl⟩ : ∃ k, n = k + 5 := ⟨n - 5, by unfold BIG at hn; omega⟩
  unfold slices_Compare_Sint_int_ bef V3.els
  simp only [fx_succ, slices_Compare_Sint_int__L1, lt_eq, cmp_eq]
  rcases Int.lt_trichotomy a.x0 b.x0 with h0 | h0 | h0
  · exact ⟨-1, by simp [h0, inb, gl], by simp [show a.x0 ≠ b.x0 by omega, h0]⟩
  · rcases Int.lt_trichotomy a.x1 b.x1 with h1 | h1 | h1
    · exact ⟨-1, by simp [h0, h1, inb, gl, show w64 1 = 1 from by decide], by simp [h0, show a.x1 ≠ b.x1 by omega, h1]⟩
    · rcases Int.lt_trichotomy a.x2 b.x2 with h2 | h2 | h2
      · exact ⟨-1, by simp [h0, h1, h2, inb, gl, show w64 1 = 1 from by decide, show w64 (1 + 1) = 2 from by decide], by simp [h0, h1, h2]⟩
      · exact ⟨0, by simp [h0, h1, h2, inb, gl, show w64 1 = 1 from by decide, show w64 (1 + 1) = 2 from by decide, show w64 (2 + 1) = 3 from by decide], by simp [h0, h1, h2]⟩
      · exact ⟨1, by simp [h0, h1, h2, show ¬ a.x2 < b.x2 by omega, inb, gl, show w64 1 = 1 from by decide, show w64 (1 + 1) = 2 from by decide], by simp [h0, h1, show ¬ a.x2 < b.x2 by omega]⟩
    · exact ⟨1, by simp [h0, h1, show ¬ a.x1 < b.x1 by omega, inb, gl, show w64 1 = 1 from by decide], by simp [h0, show a.x1 ≠ b.x1 by omega, show ¬ a.x1 < b.x1 by omega]⟩
  · exact ⟨1, by simp [h0, show ¬ a.x0 < b.x0 by omega, inb, gl], by simp [show a.x0 ≠ b.x0 by omega, show ¬ a.x0 < b.x0 by omega]⟩
def pkF (ls L : List Ln) (i : Nat) : Bool := ls.contains (gl ⟨0, 0, 0⟩ L i) && (decide (i = 0) || bef (gl ⟨0, 0, 0⟩ L (i - 1)) (gl ⟨0, 0, 0⟩ L i)) && fr (L.take i) (gl ⟨0, 0, 0⟩ L i)
def pkB (ls L : List Ln) : Bool := (List.range' 0 (L.length - 0)).all (pkF ls L)
theorem all_step {f : Nat → Bool} {i n : Nat} (h : i < n) : (List.range' i (n - i)).all f = (f i && (List.range' (i + 1) (n - (i + 1))).all f) := by
  obtain ⟨m, hm⟩ : ∃ m, n - i = m + 1 := ⟨n - i - 1, by omega⟩
  rw [hm, List.range'_succ, List.all_cons, show n - (i + 1) = m by omega]
theorem s_pick_eq {n : Nat} (hn : BIG ≤ n) {h : List Card} (hh : hand h = true) {L : List Ln} (hL : L.length ≤ 1000000) : s_l7Picking n h L = some (pkB (linesOf h) L) := by
  have h27 := hand_len hh
  have h729 := lines_len27 hh
  unfold s_l7Picking pkB
  rw [s_l2Lines_eq hn (by omega) (hand_all hh), ob_some]
  generalize linesOf h = ls at h729
  refine fx_cnt (B := s_l7Picking_L1 n) L.length (fun i => (L, (i : Int), ls)) (fun _ => True) (fun i => some ((List.range' i (L.length - i)).all (pkF ls L))) (fun self i hi _ ih => ?_) n 0 (Nat.zero_le _) trivial (big_gt hn (by omega))
  simp only [s_l7Picking_L1, lt_eq]
  by_cases h1 : i < L.length
  · rw [all_step h1, br_pos (decide_eq_true (show (i : Int) < (L.length : Int) by omega)), ckb_pos (inb_ok h1), toNat_cast, s_l7Has_eq hn (by omega), ob_some, w64_succ (by omega)]
    have ih := ih h1 trivial
    generalize (List.range' (i + 1) (L.length - (i + 1))).all (pkF ls L) = A at ih ⊢
    unfold pkF
    cases hc : ls.contains (gl ⟨0, 0, 0⟩ L i) with
    | false => simp
    | true =>
      simp only [Bool.not_true, br_false]
      rw [ckb_pos (slb_ok (by omega) (by omega) (by omega)), ckb_pos (inb_ok h1), show sub L 0 i = L.take i by unfold sub; simp, s_l7Free_eq hn (by rw [List.length_take]; omega), ob_some, ob_some]
      show ob (br (!fr (L.take i) (gl ⟨0, 0, 0⟩ L i)) _ _) _ = _
      cases hf : fr (L.take i) (gl ⟨0, 0, 0⟩ L i) with
      | false => simp
      | true =>
        simp only [Bool.not_true, br_false]
        by_cases h0 : i = 0
        · subst h0
          rw [br_neg (decide_eq_false (by omega)), ob_some, ob_some, br_false, ih]; simp
        · rw [br_pos (decide_eq_true (show (0 : Int) < (i : Int) by omega)), show w64 ((i : Int) - 1) = ((i - 1 : Nat) : Int) by rw [w64_id (by omega)]; omega, ckb_pos (inb_ok (show i - 1 < L.length by omega)), ckb_pos (inb_ok h1), toNat_cast, s_l7Before_eq hn, ob_some, ob_some]
          cases hb : bef (gl ⟨0, 0, 0⟩ L (i - 1)) (gl ⟨0, 0, 0⟩ L i) with
          | false => simp [h0]
          | true => simp only [Bool.not_true, br_false]; rw [ih]; simp
  · rw [br_neg (decide_eq_false (by omega)), show L.length - i = 0 by omega]; rfl
theorem dis_loop {n : Nat} (hn : BIG ≤ n) (go : List Ln × List Ln × Int × Int × List Ln → Opt Bool) (L ls : List Ln) (ll : Int) {i : Nat} (hi : i ≤ 1000000) (x : Ln) {D : List Ln} (hD : D.length ≤ 1000000) :
    fx (i_isPicking_L1 n go) n (L, L, ll, (i : Int), D, (D.length : Int), 0, ls, x) = if fr D x = true then go (L, L, ll, ((i + 1 : Nat) : Int), ls) else some false := by
  have := fx_find (B := i_isPicking_L1 n go) D (fun k => (L, L, ll, (i : Int), D, (D.length : Int), (k : Int), ls, x)) (fun b => meets b x) (fun _ => some false) (go (L, L, ll, ((i + 1 : Nat) : Int), ls)) (fun self k hk => ?_) (fun self => ?_) n (big_gt hn (by omega))
  · have e : ((0 : Nat) : Int) = 0 := rfl
    simp only [e] at this
    rw [this]
    unfold fr
    rw [← findIdx?_any]; cases D.findIdx? _ <;> simp
  · obtain ⟨v, h1, h2⟩ := i_common_pos hn x D[k]
    simp only [i_isPicking_L1, lt_eq]
    rw [br_pos (decide_eq_true (show (k : Int) < (D.length : Int) by omega)), ckb_pos (inb_ok hk), toNat_cast, gl_eq hk, h1, ob_some, h2, meets_comm, w64_succ (by omega)]
    cases meets D[k] x <;> simp
  · simp only [i_isPicking_L1, lt_eq]
    rw [br_neg (decide_eq_false (by omega)), w64_succ (by omega)]
theorem i_pick_eq {n : Nat} (hn : BIG ≤ n) {h : List Card} (hh : hand h = true) {L : List Ln} (hL : L.length ≤ 1000000) : i_isPicking n h L = some (pkB (linesOf h) L) := by
  have h27 := hand_len hh
  have h729 := lines_len27 hh
  unfold i_isPicking pkB
  rw [i_linesIn_eq hn (by omega) (hand_all hh) (hand_nodup hh), ob_some]
  generalize linesOf h = ls at h729
  refine fx_cnt (B := i_isPicking_L2 n) L.length (fun i => (L, L, (L.length : Int), (i : Int), ls)) (fun _ => True) (fun i => some ((List.range' i (L.length - i)).all (pkF ls L))) (fun self i hi _ ih => ?_) n 0 (Nat.zero_le _) trivial (big_gt hn (by omega))
  simp only [i_isPicking_L2, lt_eq]
  by_cases h1 : i < L.length
  · have htl : (L.take i).length = i := by rw [List.length_take]; omega
    rw [all_step h1, br_pos (decide_eq_true (show (i : Int) < (L.length : Int) by omega)), ckb_pos (inb_ok h1), toNat_cast, contains3_eq hn (by omega), ob_some]
    have ih := ih h1 trivial
    generalize (List.range' (i + 1) (L.length - (i + 1))).all (pkF ls L) = A at ih ⊢
    have hD : ∀ b : Bool, b = true → (ckb (slb 0 (i : Int) L.length) (fx (i_isPicking_L1 n self) n (L, L, (L.length : Int), (i : Int), sub L 0 i, ((sub L 0 i).length : Int), 0, ls, gl ⟨0, 0, 0⟩ L i))) = some (b && fr (L.take i) (gl ⟨0, 0, 0⟩ L i) && A) := fun b hb => by
      subst hb
      rw [ckb_pos (slb_ok (by omega) (by omega) (by omega)), show sub L 0 i = L.take i by unfold sub; simp, dis_loop hn self L ls _ (by omega) _ (by omega)]
      cases fr (L.take i) (gl ⟨0, 0, 0⟩ L i) with
      | true => rw [if_pos rfl, ih]; simp
      | false => rw [if_neg (by simp)]; simp
    unfold pkF
    cases hc : ls.contains (gl ⟨0, 0, 0⟩ L i) with
    | false => simp
    | true =>
      simp only [Bool.not_true, br_false]
      by_cases h0 : i = 0
      · subst h0
        rw [br_neg (decide_eq_false (by omega)), ob_some, ob_some, br_false, hD true rfl]; simp
      · obtain ⟨v, v1, v2⟩ := compare_eq hn (gl ⟨0, 0, 0⟩ L (i - 1)) (gl ⟨0, 0, 0⟩ L i)
        rw [br_pos (decide_eq_true (show (0 : Int) < (i : Int) by omega)), show w64 ((i : Int) - 1) = ((i - 1 : Nat) : Int) by rw [w64_id (by omega)]; omega, ckb_pos (inb_ok (show i - 1 < L.length by omega)), toNat_cast, v1, ob_some, v2, ob_some, ob_some]
        cases hb : bef (gl ⟨0, 0, 0⟩ L (i - 1)) (gl ⟨0, 0, 0⟩ L i) with
        | false => simp [h0]
        | true => simp only [Bool.not_true, br_false]; rw [hD true rfl]; simp
  · rw [br_neg (decide_eq_false (by omega)), show L.length - i = 0 by omega]; rfl
end Go.Pl
namespace Go.Pl
open Go Go.Tv Go.RowKit
set_option linter.unusedVariables false
set_option linter.unusedSimpArgs false

/-! sums of cards -/
def sm (F : Card → Int) (l : List Card) : Int := (l.map F).sum
theorem sm_nil (F : Card → Int) : sm F [] = 0 := rfl
theorem sm_cons (F : Card → Int) (c : Card) (l : List Card) : sm F (c :: l) = F c + sm F l := by unfold sm; rw [List.map_cons, List.sum_cons]
theorem sm_app (F : Card → Int) (a b : List Card) : sm F (a ++ b) = sm F a + sm F b := by
  induction a with
  | nil => rw [List.nil_append, sm_nil]; omega
  | cons x a ih => rw [List.cons_append, sm_cons, sm_cons, ih]; omega
theorem sm_perm {F : Card → Int} {a b : List Card} (h : a.Perm b) : sm F a = sm F b := by
  induction h with
  | nil => rfl
  | cons x _ ih => rw [sm_cons, sm_cons, ih]
  | swap x y l => rw [sm_cons, sm_cons, sm_cons, sm_cons]; omega
  | trans _ _ h1 h2 => exact h1.trans h2
theorem sm_one (l : List Card) : sm (fun _ => 1) l = (l.length : Int) := by
  induction l with
  | nil => rfl
  | cons x l ih => rw [sm_cons, ih, List.length_cons]; omega
theorem ins_sum {F : Card → Int} {c : Card} : ∀ {l : List Card}, c ∉ l → sm F (ins c l) = F c + sm F l
  | [], _ => by unfold ins; rw [sm_cons]
  | x :: l, h => by
    have h1 : ¬ x = c := fun e => h (e ▸ List.mem_cons_self)
    have h2 : c ∉ l := fun e => h (List.mem_cons_of_mem _ e)
    unfold ins
    split
    · rw [sm_cons, ins_sum h2, sm_cons]; omega
    · rw [sm_cons]
theorem sortd_sum_go {F : Card → Int} : ∀ {l a : List Card}, l.Nodup → (∀ c ∈ l, c ∉ a) → sm F (l.foldl (fun a c => ins c a) a) = sm F l + sm F a
  | [], a, _, _ => by rw [List.foldl_nil, sm_nil]; omega
  | c :: l, a, h, hd => by
    obtain ⟨h1, h2⟩ := List.nodup_cons.1 h
    rw [List.foldl_cons, sortd_sum_go h2 fun x hx hm => ?_, ins_sum (hd c List.mem_cons_self), sm_cons]
    · omega
    · rcases ins_mem.1 hm with e | hm
      · exact h1 (e ▸ hx)
      · exact hd x (List.mem_cons_of_mem _ hx) hm
theorem sortd_sum {F : Card → Int} {l : List Card} (h : l.Nodup) : sm F (sortd l) = sm F l := by
  have := sortd_sum_go (F := F) (a := []) h fun c _ => by simp
  rw [sm_nil, Int.add_zero] at this
  exact this
theorem sortd_length {l : List Card} (h : l.Nodup) : (sortd l).length = l.length := by
  have := sortd_sum (F := fun _ => 1) h
  rw [sm_one, sm_one] at this; omega
def cx (k : Nat) (c : Card) : Int := V4.get c k
def sumC (h : List Card) : Card := ⟨sm (cx 0) h % 3, sm (cx 1) h % 3, sm (cx 2) h % 3, sm (cx 3) h % 3⟩
theorem i_sum_step {n : Nat} (hn : BIG ≤ n) (go : List Card × Int × Int × Card × Card → Opt Card) (h : List Card) (l i : Int) (z : Card) {c a : Card} (hc : isC c = true) (ha : isC a = true) (hi : 0 ≤ i ∧ i ≤ 1000000) :
    fx (i_sum_L1 n go) n (h, l, i, c, 0, z, a) = go (h, l, i + 1, z, ⟨(a.x0 + c.x0) % 3, (a.x1 + c.x1) % 3, (a.x2 + c.x2) % 3, (a.x3 + c.x3) % 3⟩) := by
  obtain ⟨m, rfl⟩ : ∃ m, n = m + 5 := ⟨n - 5, by unfold BIG at hn; omega⟩
  rw [isC_iff] at hc ha
  simp only [lt_eq, fx_succ, i_sum_L1]
  simp [V4.get, V4.set, show inb 0 4 = true from rfl, show inb 1 4 = true from rfl, show inb 2 4 = true from rfl, show inb 3 4 = true from rfl, show w64 1 = 1 from by decide, show w64 (1 + 1) = 2 from by decide, show w64 (2 + 1) = 3 from by decide, show w64 (3 + 1) = 4 from by decide]
  rw [w64_id (x := a.x0 + c.x0) (by omega), w64_id (x := a.x1 + c.x1) (by omega), w64_id (x := a.x2 + c.x2) (by omega), w64_id (x := a.x3 + c.x3) (by omega), w64_id (x := i + 1) (by omega), Int.tmod_eq_emod_of_nonneg (by omega), Int.tmod_eq_emod_of_nonneg (by omega), Int.tmod_eq_emod_of_nonneg (by omega), Int.tmod_eq_emod_of_nonneg (by omega)]
theorem sumC_isC (h : List Card) : isC (sumC h) = true := by
  rw [isC_iff]
  unfold sumC
  simp only []
  omega
theorem sumC_snoc (h : List Card) (c : Card) : sumC (h ++ [c]) = ⟨((sumC h).x0 + c.x0) % 3, ((sumC h).x1 + c.x1) % 3, ((sumC h).x2 + c.x2) % 3, ((sumC h).x3 + c.x3) % 3⟩ := by
  unfold sumC
  simp only [sm_app, sm_cons, sm_nil, cx, V4.get]
  congr 1 <;> omega
theorem i_sum_eq {n : Nat} (hn : BIG ≤ n) {h : List Card} (hc : AllC h) (hl : h.length ≤ 1000) : i_sum n h = some (sumC h) := by
  unfold i_sum
  rw [lt_eq]
  have := fx_cnt (B := i_sum_L2 n) h.length (fun i => (h, (h.length : Int), (i : Int), (⟨0, 0, 0, 0⟩ : Card), sumC (h.take i))) (fun _ => True) (fun _ => some (sumC h)) (fun self i hi _ ih => by
    simp only [i_sum_L2]
    by_cases h1 : i < h.length
    · have g : gl (⟨0, 0, 0, 0⟩ : Card) h i = h[i] := gl_eq h1
      rw [br_pos (decide_eq_true (show (i : Int) < (h.length : Int) by omega)), ckb_pos (inb_ok h1), toNat_cast, g, i_sum_step hn self _ _ _ _ (hc _ (List.getElem_mem h1)) (sumC_isC _) (by omega), ← ih h1 trivial, List.take_succ_eq_append_getElem h1, sumC_snoc]
      rfl
    · have : i = h.length := by omega
      subst this
      rw [br_neg (decide_eq_false (by omega)), List.take_length]) n 0 (Nat.zero_le _) trivial (big_gt hn (by omega))
  exact this
theorem i_SumCards_eq {n : Nat} (hn : BIG ≤ n) {h : List Card} (hl : h.length ≤ 1048576) : i_SumCards n h = some (if hand h then (sumC h, true) else (⟨0, 0, 0, 0⟩, false)) := by
  unfold i_SumCards
  rw [i_IsHand_eq hn (by omega), ob_some]
  cases hh : hand h with
  | false => rfl
  | true =>
    have := hand_len hh
    rw [Bool.not_true, br_false, i_sum_eq hn (hand_all hh) (by omega)]; rfl
end Go.Pl

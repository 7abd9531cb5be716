/- Plain laws: LRs. -/
import Derived.Test.YtklhncjpkkfjmaaLLLb
import Derived.Test.YtklhncjpkkfjmaaLLFr
import Derived.Test.YtklhncjpkkfjmaaLLWo
import Derived.Test.YtklhncjpkkfjmaaLLC
set_option linter.unusedVariables false
set_option linter.unusedSimpArgs false
namespace Go.Pl
open Go Go.Tv Go.RowKit
set_option linter.unusedVariables false

/-! the cards that a hand has not -/
theorem cardAt_inj {a b : Nat} (ha : a < 81) (hb : b < 81) (h : cardAt (a : Int) = cardAt (b : Int)) : a = b := by
  have := congrArg num h
  rw [num_cardAt (by omega), num_cardAt (by omega)] at this
  omega
def nat81 (c : Card) : Nat := (num c).toNat
theorem nat81_lt {c : Card} (h : isC c = true) : nat81 c < 81 := by have := num_bd h; unfold nat81; omega
theorem cardAt_nat81 {c : Card} (h : isC c = true) : cardAt (nat81 c : Int) = c := by
  have := num_bd h
  have e : ((nat81 c : Nat) : Int) = num c := by unfold nat81; omega
  rw [e, cardAt_num h]
theorem nat81_cardAt {k : Nat} (h : k < 81) : nat81 (cardAt (k : Int)) = k := by unfold nat81; rw [num_cardAt (by omega)]; rfl
def rs1 (h : List Card) (k : Nat) : List Card := if h.contains (cardAt k) = true then [] else [cardAt k]
def restK (h : List Card) (k : Nat) : List Card := (List.range' 0 (k - 0)).flatMap (rs1 h)
def rstC (h : List Card) : List Card := restK h 81
theorem restK_succ (h : List Card) (k : Nat) : restK h (k + 1) = restK h k ++ rs1 h k := by
  unfold restK
  simp only [Nat.sub_zero]
  rw [List.range'_concat, List.flatMap_append]
  simp
theorem restK_len (h : List Card) : ∀ k, (restK h k).length + (S k fun i => b2 (h.contains (cardAt i))) = k
  | 0 => rfl
  | k + 1 => by
    have ih := restK_len h k
    rw [restK_succ, List.length_append, S]
    unfold rs1
    cases hc : h.contains (cardAt (k : Int)) with
    | true => rw [if_pos rfl, List.length_nil, show b2 true = 1 from rfl]; omega
    | false => rw [if_neg (by simp), List.length_singleton, show b2 false = 0 from rfl]; omega
theorem sum_ind (h : List Card) (f : Card → Nat) (hc : AllC h) (hnd : h.Nodup) : (S 81 fun k => if h.contains (cardAt k) = true then f (cardAt k) else 0) = (h.map f).sum := by
  induction h with
  | nil => simp [S_zero]
  | cons c l ih =>
    have cc := hc c List.mem_cons_self
    obtain ⟨h1, h2⟩ := List.nodup_cons.1 hnd
    have ih := ih (fun x hx => hc x (List.mem_cons_of_mem _ hx)) h2
    rw [List.map_cons, List.sum_cons, ← ih]
    have e : ∀ k : Nat, k < 81 → (if (c :: l).contains (cardAt k) = true then f (cardAt k) else 0) = (if k = nat81 c then f c else 0) + (if l.contains (cardAt k) = true then f (cardAt k) else 0) := fun k hk => by
      rw [List.contains_cons]
      by_cases hk2 : k = nat81 c
      · rw [if_pos hk2]
        have e1 : cardAt (k : Int) = c := by rw [hk2, cardAt_nat81 cc]
        have e2 : l.contains (cardAt (k : Int)) = false := by rw [e1, ← Bool.not_eq_true, List.contains_iff_mem]; exact h1
        rw [e2, e1]; simp
      · rw [if_neg hk2]
        have e1 : (cardAt (k : Int) == c) = false := by
          rw [beq_eq_false_iff_ne]
          intro e; apply hk2
          rw [← e, nat81_cardAt hk]
        rw [e1, Bool.false_or]; omega
    have : ∀ m, (S m fun k => if k = nat81 c then f c else 0) = if nat81 c < m then f c else 0 := fun m => by
      induction m with
      | zero => simp [S]
      | succ m ihm =>
        rw [S, ihm]
        by_cases a : nat81 c < m
        · rw [if_pos a, if_neg (by omega), if_pos (by omega)]; omega
        · by_cases b : m = nat81 c
          · rw [if_neg a, if_pos b, if_pos (by omega)]; omega
          · rw [if_neg a, if_neg b, if_neg (by omega)]
    rw [S_congr e, S_add, this, if_pos (nat81_lt cc)]
theorem rstC_len {h : List Card} (H : HandL h) : (rstC h).length + h.length = 81 := by
  have h1 := restK_len h 81
  have h2 := sum_ind h (fun _ => 1) H.c H.nd
  have h3 : (h.map fun _ => 1).sum = h.length := by
    clear h1 h2 H
    induction h with
    | nil => rfl
    | cons c l ih => rw [List.map_cons, List.sum_cons, ih, List.length_cons]; omega
  rw [h3] at h2
  have h4 : (S 81 fun i => b2 (h.contains (cardAt i))) = S 81 fun k => if h.contains (cardAt k) = true then 1 else 0 := S_congr fun k _ => by unfold b2; rfl
  unfold rstC; omega
theorem restK_allC (h : List Card) {k : Nat} (hk : k ≤ 81) : AllC (restK h k) := by
  induction k with
  | zero => intro c hc; simp [restK] at hc
  | succ k ih =>
    intro c hc
    rw [restK_succ, List.mem_append] at hc
    rcases hc with hc | hc
    · exact ih (by omega) c hc
    · unfold rs1 at hc
      split at hc
      · cases hc
      · rw [List.mem_singleton] at hc; subst hc; exact cardAt_isC (by omega)
theorem restK_le (h : List Card) (k : Nat) : (restK h k).length ≤ k := by have := restK_len h k; omega
/-- lines of a card that a hand has not, all of them -/
def totK (h : List Card) (k : Nat) : Nat := ((restK h k).map (thr h)).sum
def tot (h : List Card) : Nat := totK h 81
theorem totK_succ (h : List Card) (k : Nat) : totK h (k + 1) = totK h k + if h.contains (cardAt k) = true then 0 else thr h (cardAt k) := by
  unfold totK
  rw [restK_succ, List.map_append, List.sum_append]
  unfold rs1
  split <;> simp
theorem totK_S (h : List Card) : ∀ k, totK h k = S k fun i => if h.contains (cardAt i) = true then 0 else thr h (cardAt i)
  | 0 => rfl
  | k + 1 => by rw [totK_succ, totK_S h k, S]
theorem U_T (g : Nat → Nat → Nat) : ∀ N, (S N fun i => ((List.range' (i + 1) (N - (i + 1))).map (g i)).sum) = T N fun j i => g i j
  | 0 => rfl
  | N + 1 => by
    rw [T_succ, ← U_T g N, S]
    have e : ∀ i, i < N → ((List.range' (i + 1) (N + 1 - (i + 1))).map (g i)).sum = ((List.range' (i + 1) (N - (i + 1))).map (g i)).sum + g i N := fun i hi => by
      rw [show N + 1 - (i + 1) = (N - (i + 1)) + 1 by omega, List.range'_concat, List.map_append, List.sum_append]
      have e3 : i + 1 + 1 * (N - (i + 1)) = N := by omega
      rw [e3]; simp
    rw [S_congr e, S_add]
    simp
theorem len_flatMap {α β : Type} (f : α → List β) : ∀ l : List α, (l.flatMap f).length = (l.map fun a => (f a).length).sum
  | [] => rfl
  | a :: l => by rw [List.flatMap_cons, List.length_append, len_flatMap f l, List.map_cons, List.sum_cons]
theorem thr_T (h : List Card) (c : Card) : thr h c = T h.length fun j i => b2 (lineB (gz h i) (gz h j) c) := by
  rw [← U_T fun i j => b2 (lineB (gz h i) (gz h j) c)]
  unfold thr prs
  rw [len_flatMap, S_range']
  refine S_congr fun i _ => ?_
  unfold pr2
  rw [len_flatMap]
  congr 1
  refine List.map_congr_left fun j _ => ?_
  unfold pr1 b2
  split <;> rfl
theorem tot_open {h : List Card} (H : HandL h) : tot h = opn h := by
  unfold tot opn
  rw [totK_S]
  have e : ∀ k : Nat, k < 81 → (if h.contains (cardAt (k : Int)) = true then 0 else thr h (cardAt k)) = T h.length fun j i => b2 (lineB (gz h i) (gz h j) (cardAt k) && !h.contains (cardAt (k : Int))) := fun k _ => by
    cases hc : h.contains (cardAt (k : Int)) with
    | true =>
      rw [if_pos rfl]
      have : (T h.length fun j i => b2 (lineB (gz h i) (gz h j) (cardAt k) && !true)) = T h.length fun _ _ => 0 := T_congr fun i j _ _ => by simp [b2]
      rw [this, T_const, Nat.mul_zero]
    | false =>
      rw [if_neg (by simp), thr_T]
      exact T_congr fun i j _ _ => by simp
  rw [S_congr e, ← T_swap (fun k j i => b2 (lineB (gz h i) (gz h j) (cardAt k) && !h.contains (cardAt (k : Int))))]
  refine T_congr fun j i hij hj => ?_
  have cj : isC (gz h j) = true := gl_C H.c hj
  have ci : isC (gz h i) = true := gl_C H.c (by omega)
  have ct := third_isC ci cj
  have e2 : ∀ k : Nat, k < 81 → b2 (lineB (gz h i) (gz h j) (cardAt (k : Int)) && !h.contains (cardAt (k : Int))) = b2 (decide (nat81 (third (gz h i) (gz h j)) = k) && !h.contains (cardAt (k : Int))) := fun k hk => by
    congr 2
    unfold lineB
    have hne : gz h i ≠ gz h j := H.ne (by omega) hj (by omega)
    rw [decide_eq_false hne, Bool.not_false, Bool.true_and]
    congr 1
    apply propext
    constructor
    · intro e; rw [e, nat81_cardAt hk]
    · intro e; rw [← e, cardAt_nat81 ct]
  rw [S_congr e2, S_ind (nat81_lt ct) fun k => !h.contains (cardAt (k : Int)), cardAt_nat81 ct, th_comm]

theorem s_l9Rest_eq {n : Nat} (hn : BIG ≤ n) {h : List Card} (hl : h.length ≤ 1000000) : s_l9Rest n h = some (rstC h) := by
  unfold s_l9Rest rstC
  refine fx_cnt (B := s_l9Rest_L1 n) 81 (fun k => (h, (k : Int), restK h k)) (fun _ => True) (fun _ => some (restK h 81)) (fun self k hk _ ih => ?_) n 0 (by omega) trivial (big_gt hn (by omega))
  simp only [s_l9Rest_L1, lt_eq]
  by_cases hlt : k < 81
  · rw [br_pos (decide_eq_true (show (k : Int) < 81 by omega)), s_l2At_eq n (by omega), ob_some, s_l2Has_eq hn (by omega), ob_some, w64_succ (by omega)]
    have ih := ih hlt trivial
    have hlen := restK_le h k
    rw [restK_succ] at ih
    unfold rs1 at ih
    cases hc : h.contains (cardAt (k : Int)) with
    | true =>
      rw [hc, if_pos rfl, List.append_nil] at ih
      rw [Bool.not_true, br_false]; exact ih
    | false =>
      rw [hc, if_neg (by simp)] at ih
      rw [Bool.not_false, br_true, ckb_pos (apok_ok (by omega) (by omega))]; exact ih
  · have : k = 81 := by omega
    subst this
    rw [br_neg (decide_eq_false (by omega))]

/-! the best third card -/
def btOp (h : List Card) (a : Int × Int) (c : Card) : Int × Int := if a.2 < (thr h c : Int) then (num c, (thr h c : Int)) else a
def btK (h : List Card) (k : Nat) : Int × Int := (restK h k).foldl (btOp h) (0, -1)
theorem btK_succ (h : List Card) (k : Nat) : btK h (k + 1) = if h.contains (cardAt k) = true then btK h k else btOp h (btK h k) (cardAt k) := by
  unfold btK
  rw [restK_succ, List.foldl_append]
  unfold rs1
  split <;> rfl
def BT (h : List Card) : Int × Int × Bool := if hand h then ((btK h 81).1, (btK h 81).2, true) else (0, 0, false)
theorem i_BestThird_eq {n : Nat} (hn : BIG ≤ n) {h : List Card} (hl : h.length ≤ 1048576) : i_BestThird n h = some (BT h) := by
  unfold i_BestThird BT
  rw [i_IsHand_eq hn (by omega), ob_some]
  cases hh : hand h with
  | false => rfl
  | true =>
    have H := HandL.of hh
    rw [Bool.not_true, br_false, if_pos rfl]
    refine fx_cnt (B := i_BestThird_L1 n) 81 (fun k => (h, (btK h k).1, (btK h k).2, (k : Int))) (fun _ => True) (fun _ => some ((btK h 81).1, (btK h 81).2, true)) (fun self k hk _ ih => ?_) n 0 (by omega) trivial (big_gt hn (by omega))
    simp only [i_BestThird_L1, lt_eq]
    by_cases hlt : k < 81
    · rw [br_pos (decide_eq_true (show (k : Int) < 81 by omega)), i_card_eq n (by omega), ob_some, i_has_eq hn (by have := H.len; omega), ob_some, i_pairsFor_eq hn H, ob_some, w64_succ (by omega)]
      have ih := ih hlt trivial
      rw [btK_succ] at ih
      cases hc : h.contains (cardAt (k : Int)) with
      | true =>
        rw [hc, if_pos rfl] at ih
        rw [Bool.not_true, br_false]; exact ih
      | false =>
        rw [hc, if_neg (by simp)] at ih
        rw [Bool.not_false, br_true, br_dec]
        unfold btOp at ih
        show (if (btK h k).2 < (thr h (cardAt (k : Int)) : Int) then _ else _) = _
        by_cases hx : (btK h k).2 < (thr h (cardAt (k : Int)) : Int)
        · rw [if_pos hx] at ih ⊢
          simp only [] at ih
          rw [num_cardAt (by omega)] at ih
          exact ih
        · rw [if_neg hx] at ih ⊢; exact ih
    · have : k = 81 := by omega
      subst this
      rw [br_neg (decide_eq_false (by omega))]
theorem s_BestThird_eq {n : Nat} (hn : BIG ≤ n) {h : List Card} (hl : h.length ≤ 1048576) : s_BestThird n h = some (BT h) := by
  unfold s_BestThird BT
  rw [s_l2Hand_eq hn (by omega), ob_some]
  cases hh : hand h with
  | false => rfl
  | true =>
    have H := HandL.of hh
    have hL := H.len
    rw [Bool.not_true, br_false, if_pos rfl, s_l9Rest_eq hn (by omega), ob_some]
    have hrc := restK_allC h (k := 81) (by omega)
    have hrl := restK_le h 81
    have hbt : btK h 81 = (rstC h).foldl (btOp h) (0, -1) := rfl
    rw [hbt]
    have hrc : AllC (rstC h) := hrc
    have hrl : (rstC h).length ≤ 81 := hrl
    generalize rstC h = R at hrc hrl ⊢
    refine fx_foldl (B := s_BestThird_L1 n) R (fun i a => (h, a.1, a.2, (i : Int), R)) (btOp h) (fun a => some (a.1, a.2, true)) (fun _ _ => True) (fun _ _ _ _ => trivial) (fun self i a hi _ => ?_) (fun self a _ => ?_) n (big_gt hn (by omega)) (0, -1) trivial
    · have hc : isC R[i] = true := hrc _ (List.getElem_mem hi)
      simp only [s_BestThird_L1, lt_eq]
      rw [br_pos (decide_eq_true (show (i : Int) < (R.length : Int) by omega)), ckb_pos (inb_ok hi), toNat_cast, gl_eq hi, s_l2Through_eq hn H, ob_some, ckb_pos (inb_ok hi), s_l2Number_eq hc, ob_some, w64_succ (by omega), br_dec]
      unfold btOp
      split <;> rfl
    · simp only [s_BestThird_L1]
      rw [br_neg (decide_eq_false (by omega))]
/-- the first one of the best -/
theorem btK_best {h : List Card} (hc : AllC h) : ∀ k : Nat, k ≤ 81 → (∀ i : Nat, i < k → h.contains (cardAt (i : Int)) = false → (thr h (cardAt i) : Int) ≤ (btK h k).2 ∧ ((thr h (cardAt i) : Int) = (btK h k).2 → (btK h k).1 ≤ (i : Int))) ∧
    (restK h k ≠ [] → ∃ i : Nat, i < k ∧ h.contains (cardAt (i : Int)) = false ∧ (btK h k).1 = (i : Int) ∧ (btK h k).2 = (thr h (cardAt i) : Int)) ∧ (restK h k = [] → btK h k = (0, -1))
  | 0, _ => ⟨fun i hi => by omega, fun h' => absurd rfl h', fun _ => rfl⟩
  | k + 1, hk => by
    obtain ⟨h1, h2, h3⟩ := btK_best hc k (by omega)
    rw [btK_succ, restK_succ]
    unfold rs1
    cases hm : h.contains (cardAt (k : Int)) with
    | true =>
      simp only [if_true, List.append_nil]
      refine ⟨fun i hi hx => ?_, fun hr => ?_, h3⟩
      · by_cases hik : i = k
        · subst hik; rw [hm] at hx; cases hx
        · exact h1 i (by omega) hx
      · obtain ⟨i, a, b⟩ := h2 hr
        exact ⟨i, by omega, b⟩
    | false =>
      simp only [Bool.false_eq_true, if_false]
      unfold btOp
      by_cases hlt : (btK h k).2 < (thr h (cardAt k) : Int)
      · rw [if_pos hlt]
        refine ⟨fun i hi hx => ?_, fun _ => ⟨k, by omega, hm, by simp only []; rw [num_cardAt (by omega)], rfl⟩, fun h' => by simp at h'⟩
        simp only []
        rw [num_cardAt (by omega)]
        by_cases hik : i = k
        · subst hik; exact ⟨by omega, fun _ => by omega⟩
        · have := (h1 i (by omega) hx).1
          exact ⟨by omega, fun _ => by omega⟩
      · rw [if_neg hlt]
        have hr : restK h k ≠ [] := fun e => by rw [h3 e] at hlt; simp only [] at hlt; omega
        obtain ⟨j, j1, j2, j3, j4⟩ := h2 hr
        refine ⟨fun i hi hx => ?_, fun _ => ⟨j, by omega, j2, j3, j4⟩, fun h' => by simp at h'⟩
        by_cases hik : i = k
        · subst hik; exact ⟨by omega, fun _ => by omega⟩
        · exact h1 i (by omega) hx
end Go.Pl

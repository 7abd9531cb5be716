/- Plain laws: L7. -/
import Derived.Test.YtklhncjpkkfjmaaLL2b
set_option linter.unusedVariables false
set_option linter.unusedSimpArgs false
namespace Go.Pl
open Go Go.Tv Go.RowKit

abbrev Ln := V3 Int
def eqn (x : Int) (b : Ln) (j : Nat) : Nat := if x = V3.get b j then 1 else 0
def eqs (x : Int) (b : Ln) : Nat := ((List.range' 0 (3 - 0)).map (eqn x b)).sum
def common (a b : Ln) : Nat := ((List.range' 0 (3 - 0)).map fun i => eqs (V3.get a i) b).sum
/-- do they meet? -/
def meets (a b : Ln) : Bool := (V3.els a).any fun x => (V3.els b).contains x
theorem eqs_val (x : Int) (b : Ln) : eqs x b = eqn x b 0 + eqn x b 1 + eqn x b 2 := by
  unfold eqs; simp [List.range'_succ]; omega
theorem eqn_le (x : Int) (b : Ln) (j : Nat) : eqn x b j ≤ 1 := by unfold eqn; split <;> omega
theorem eqs_le (x : Int) (b : Ln) : eqs x b ≤ 3 := by
  rw [eqs_val]; have := eqn_le x b 0; have := eqn_le x b 1; have := eqn_le x b 2; omega
theorem eqn_one (x : Int) (b : Ln) (j : Nat) : eqn x b j = 1 ↔ x = V3.get b j := by unfold eqn; split <;> simp [*]
theorem eqs_pos (x : Int) (b : Ln) : (0 < eqs x b) ↔ (V3.els b).contains x = true := by
  rw [eqs_val]
  have e0 := eqn_one x b 0; have e1 := eqn_one x b 1; have e2 := eqn_one x b 2
  have l0 := eqn_le x b 0; have l1 := eqn_le x b 1; have l2 := eqn_le x b 2
  simp only [V3.get] at e0 e1 e2
  simp only [V3.els, List.contains_cons, List.contains_nil, Bool.or_false, Bool.or_eq_true, beq_iff_eq]
  rw [← e0, ← e1, ← e2]; omega
theorem common_val (a b : Ln) : common a b = eqs a.x0 b + eqs a.x1 b + eqs a.x2 b := by
  unfold common; simp [List.range'_succ, V3.get]; omega
theorem common_le (a b : Ln) : common a b ≤ 9 := by
  rw [common_val]; have := eqs_le a.x0 b; have := eqs_le a.x1 b; have := eqs_le a.x2 b; omega
theorem common_pos (a b : Ln) : decide ((0 : Int) < (common a b : Int)) = meets a b := by
  have h0 := eqs_pos a.x0 b; have h1 := eqs_pos a.x1 b; have h2 := eqs_pos a.x2 b
  have : meets a b = true ↔ 0 < common a b := by
    rw [common_val]
    unfold meets
    simp only [V3.els, List.any_cons, List.any_nil, Bool.or_false, Bool.or_eq_true] at h0 h1 h2 ⊢
    rw [← h0, ← h1, ← h2]; omega
  rw [Bool.eq_iff_iff, decide_eq_true_eq, this]; omega

theorem s_l7Common_eq {n : Nat} (hn : BIG ≤ n) (a b : Ln) : s_l7Common n a b = some (common a b : Int) := by
  unfold s_l7Common
  have := fx_sum (B := s_l7Common_L2 n) 3 (fun i x => (x, (i : Int), a, b)) (fun i => eqs (V3.get a i) b) some 1000 (fun self i x hi h0 hM => ?_) (fun self x _ _ => by simp [s_l7Common_L2]) n 0 0 (by omega) (big_gt hn (by omega)) (by omega) (by have := common_le a b; unfold common at this; omega)
  · simpa [common] using this
  · have e1 : decide ((i : Int) < 3) = true := decide_eq_true (by omega)
    simp only [s_l7Common_L2, e1, br_true]
    refine fx_sum (B := s_l7Common_L1 n self) 3 (fun j x => (x, (i : Int), (j : Int), a, b)) (eqn (V3.get a i) b) (fun x => self (x, ((i + 1 : Nat) : Int), a, b)) 1000 (fun self2 j x hj h0 hM => ?_) (fun self2 x _ _ => ?_) n 0 x (by omega) (big_gt hn (by omega)) h0 (by unfold eqs at hM; exact hM)
    · have e2 : decide ((j : Int) < 3) = true := decide_eq_true (by omega)
      simp only [s_l7Common_L1, e2, br_true, inb_ok hi, inb_ok hj, ckb_true, toNat_cast, lt_eq]
      rw [w64_succ (by omega)]
      unfold eqn at hM ⊢
      by_cases hc : V3.get a i = V3.get b j
      · simp only [hc, decide_true, br_true, if_true] at hM ⊢
        rw [w64_id (by omega)]; rfl
      · simp [hc]
    · have e2 : decide (((3 : Nat) : Int) < 3) = false := by decide
      simp only [s_l7Common_L1, e2, br_false, lt_eq]
      rw [w64_succ (by omega)]

theorem slices_Index_int_eq {n : Nat} (hn : BIG ≤ n) {l : List Int} (hl : l.length ≤ 9223372036854775807) (v : Int) : slices_Index_Sint_int_ n l v = some (placeI (l.findIdx? fun x => decide (v = x))) := by
  unfold slices_Index_Sint_int_
  have := fx_find (B := slices_Index_Sint_int__L1 n) l (fun i => (l, v, (l.length : Int), (i : Int))) (fun x => decide (v = x)) (fun i => some (i : Int)) (some (-1)) (fun self i hi => ?_) (fun self => ?_) n (big_gt hn (by omega))
  · have e : ((0 : Nat) : Int) = 0 := rfl
    simp only [e] at this
    rw [this]; unfold placeI; cases l.findIdx? _ <;> rfl
  · have e1 : decide ((i : Int) < (l.length : Int)) = true := decide_eq_true (by omega)
    simp only [slices_Index_Sint_int__L1, e1, br_true, inb_ok hi, ckb_true, toNat_cast, gl_eq hi, lt_eq]
    rw [w64_succ (by omega)]
    by_cases hc : v = l[i] <;> simp [hc]
  · have e1 : decide ((l.length : Int) < (l.length : Int)) = false := decide_eq_false (by omega)
    simp only [slices_Index_Sint_int__L1, e1, br_false]
theorem placeI_nonneg (o : Option Nat) : decide (0 ≤ placeI o) = o.isSome := by
  cases o with
  | none => rfl
  | some i => simp [placeI]
theorem any_eq_contains {l : List Int} {v : Int} : (l.any fun x => decide (v = x)) = l.contains v := by
  rw [Bool.eq_iff_iff]; simp
theorem slices_Contains_int_eq {n : Nat} (hn : BIG ≤ n) {l : List Int} (hl : l.length ≤ 9223372036854775807) (v : Int) : slices_Contains_Sint_int_ n l v = some (l.contains v) := by
  unfold slices_Contains_Sint_int_
  rw [slices_Index_int_eq hn hl]
  simp only [ob_some, placeI_nonneg, List.findIdx?_isSome, any_eq_contains]

def hasn (x : Int) (b : Ln) : Nat := if (V3.els b).contains x = true then 1 else 0
theorem hasn_le (x : Int) (b : Ln) : hasn x b ≤ 1 := by unfold hasn; split <;> omega
theorem i_common_eq {n : Nat} (hn : BIG ≤ n) (a b : Ln) : i_common n a b = some ((hasn a.x0 b + hasn a.x1 b + hasn a.x2 b : Nat) : Int) := by
  unfold i_common
  have h0 := hasn_le a.x0 b; have h1 := hasn_le a.x1 b; have h2 := hasn_le a.x2 b
  have := fx_sum (B := i_common_L1 n) 3 (fun i x => (x, a, (i : Int), b)) (fun i => hasn (V3.get a i) b) some 1000 (fun self i x hi h0 hM => ?_) (fun self x _ _ => by simp [i_common_L1]) n 0 0 (by omega) (big_gt hn (by omega)) (by omega) (by simp [List.range'_succ, V3.get]; omega)
  · simp [List.range'_succ, V3.get] at this
    rw [this]; congr 1; omega
  · have e1 : decide ((i : Int) < 3) = true := decide_eq_true (by omega)
    simp only [i_common_L1, e1, br_true, inb_ok hi, ckb_true, toNat_cast, lt_eq, slices_Contains_int_eq hn (l := V3.els b) (by simp [V3.els]), ob_some]
    rw [w64_succ (by omega)]
    unfold hasn at hM ⊢
    cases hc : (V3.els b).contains (V3.get a i) with
    | true =>
      rw [hc] at hM
      simp only [if_true] at hM
      simp only [br_true, if_true]
      rw [w64_id (by omega)]; rfl
    | false => simp
theorem i_common_pos {n : Nat} (hn : BIG ≤ n) (a b : Ln) : ∃ k : Int, i_common n a b = some k ∧ decide (0 < k) = meets a b := by
  refine ⟨_, i_common_eq hn a b, ?_⟩
  have h : ∀ x, hasn x b = 1 ↔ (V3.els b).contains x = true := fun x => by unfold hasn; split <;> rename_i hh <;> simp only [hh, iff_true, iff_false] <;> decide
  have h0 := h a.x0; have h1 := h a.x1; have h2 := h a.x2
  have l0 := hasn_le a.x0 b; have l1 := hasn_le a.x1 b; have l2 := hasn_le a.x2 b
  have : meets a b = true ↔ 0 < hasn a.x0 b + hasn a.x1 b + hasn a.x2 b := by
    unfold meets
    rw [show V3.els a = [a.x0, a.x1, a.x2] from rfl]
    simp only [List.any_cons, List.any_nil, Bool.or_false, Bool.or_eq_true]
    rw [← h0, ← h1, ← h2]; omega
  rw [Bool.eq_iff_iff, decide_eq_true_eq, this]; omega
theorem meets_comm (a b : Ln) : meets a b = meets b a := by
  rw [Bool.eq_iff_iff]
  unfold meets
  simp only [List.any_eq_true, List.contains_iff_mem]
  constructor
  · rintro ⟨x, h1, h2⟩; exact ⟨x, h2, h1⟩
  · rintro ⟨x, h1, h2⟩; exact ⟨x, h2, h1⟩

/-! the greedy picking -/
def pickG (out : List Ln) (a : Ln) : List Ln := if (out.any fun b => meets b a) = true then out else out ++ [a]
def greedy (ls : List Ln) : List Ln := ls.foldl pickG []
theorem pickG_len (out : List Ln) (a : Ln) : (pickG out a).length ≤ out.length + 1 := by unfold pickG; split <;> simp
theorem greedy_len : ∀ (ls out : List Ln), (ls.foldl pickG out).length ≤ out.length + ls.length
  | [], out => by simp
  | a :: ls, out => by
    have := greedy_len ls (pickG out a)
    have := pickG_len out a
    simp only [List.foldl_cons, List.length_cons]; omega

theorem s_l7Free_eq {n : Nat} (hn : BIG ≤ n) {l : List Ln} (hl : l.length ≤ 9223372036854775807) (a : Ln) : s_l7Free n l a = some (!l.any fun b => meets b a) := by
  unfold s_l7Free
  have := fx_find (B := s_l7Free_L1 n) l (fun i => (l, (i : Int), a)) (fun b => meets b a) (fun _ => some false) (some true) (fun self i hi => ?_) (fun self => ?_) n (big_gt hn (by omega))
  · have e : ((0 : Nat) : Int) = 0 := rfl
    simp only [e] at this
    rw [this, ← findIdx?_any]; cases l.findIdx? _ <;> rfl
  · have e1 : decide ((i : Int) < (l.length : Int)) = true := decide_eq_true (by omega)
    simp only [s_l7Free_L1, e1, br_true, inb_ok hi, ckb_true, toNat_cast, gl_eq hi, lt_eq, s_l7Common_eq hn, ob_some, common_pos]
    rw [w64_succ (by omega)]
    cases meets l[i] a <;> simp
  · have e1 : decide ((l.length : Int) < (l.length : Int)) = false := decide_eq_false (by omega)
    simp only [s_l7Free_L1, e1, br_false]

theorem contG_eq {n : Nat} (hn : BIG ≤ n) {l : List Ln} (hl : l.length ≤ 9223372036854775807) (a : Ln) : slices_ContainsFunc_SA3_A3_'l_i_GreedyPicking_1p n l a = some (l.any fun b => meets b a, a) := by
  unfold slices_ContainsFunc_SA3_A3_'l_i_GreedyPicking_1p slices_IndexFunc_SA3_A3_'l_i_GreedyPicking_1p
  have := fx_find (B := slices_IndexFunc_SA3_A3_'l_i_GreedyPicking_1p_L1 n) l (fun i => (l, (l.length : Int), (i : Int), a)) (fun b => meets b a) (fun i => some ((i : Int), a)) (some (-1, a)) (fun self i hi => ?_) (fun self => ?_) n (big_gt hn (by omega))
  · have e : ((0 : Nat) : Int) = 0 := rfl
    simp only [e] at this
    rw [this, ← findIdx?_any]; cases l.findIdx? _ <;> simp
  · have e1 : decide ((i : Int) < (l.length : Int)) = true := decide_eq_true (by omega)
    obtain ⟨k, h1, h2⟩ := i_common_pos hn a l[i]
    simp only [slices_IndexFunc_SA3_A3_'l_i_GreedyPicking_1p_L1, e1, br_true, inb_ok hi, ckb_true, toNat_cast, gl_eq hi, lt_eq, i_GreedyPicking_1'p, h1, ob_some, h2]
    rw [w64_succ (by omega), meets_comm]
    cases meets l[i] a <;> simp
  · have e1 : decide ((l.length : Int) < (l.length : Int)) = false := decide_eq_false (by omega)
    simp only [slices_IndexFunc_SA3_A3_'l_i_GreedyPicking_1p_L1, e1, br_false]

def greedyH (h : List Card) : Bool × List Ln := if hand h = true then (true, greedy (linesOf h)) else (false, [])
theorem s_GreedyPicking_eq {n : Nat} (hn : BIG ≤ n) {h : List Card} (hl : h.length ≤ 1048576) : s_GreedyPicking n h = some (greedyH h) := by
  unfold s_GreedyPicking greedyH
  rw [s_l2Hand_eq hn (by omega)]
  cases hh : hand h with
  | false => simp
  | true =>
    have h27 := hand_len hh
    have hll := linesOf_len (h := h)
    have hb : h.length * h.length ≤ 27 * 27 := Nat.mul_le_mul h27 h27
    simp only [ob_some, Bool.not_true, br_false, s_l2Lines_eq hn (show h.length ≤ 81 by omega) (hand_all hh), if_true]
    refine fx_foldl (B := s_GreedyPicking_L1 n) (linesOf h) (fun i a => ((i : Int), a, linesOf h)) pickG (fun a => some (true, a)) (fun i a => a.length ≤ i) (fun i a _ ha => by have := pickG_len a (linesOf h)[i]; omega) (fun self i a hi ha => ?_) (fun self a _ => ?_) n (big_gt hn (by omega)) [] (by simp)
    · have e1 : decide ((i : Int) < ((linesOf h).length : Int)) = true := decide_eq_true (by omega)
      simp only [s_GreedyPicking_L1, e1, br_true, inb_ok hi, ckb_true, toNat_cast, gl_eq hi, lt_eq, s_l7Free_eq hn (l := a) (by omega), ob_some]
      rw [w64_succ (by omega), apok_ok (by omega) (by omega)]
      unfold pickG
      cases a.any fun b => meets b (linesOf h)[i] <;> simp
    · have e1 : decide (((linesOf h).length : Int) < ((linesOf h).length : Int)) = false := decide_eq_false (by omega)
      simp only [s_GreedyPicking_L1, e1, br_false]
theorem i_GreedyPicking_eq {n : Nat} (hn : BIG ≤ n) {h : List Card} (hl : h.length ≤ 1048576) : i_GreedyPicking n h = some (greedyH h) := by
  unfold i_GreedyPicking greedyH
  rw [i_IsHand_eq hn (by omega)]
  cases hh : hand h with
  | false => simp
  | true =>
    have h27 := hand_len hh
    have hll := linesOf_len (h := h)
    have hb : h.length * h.length ≤ 27 * 27 := Nat.mul_le_mul h27 h27
    simp only [ob_some, Bool.not_true, br_false, i_linesIn_eq hn (show h.length ≤ 81 by omega) (hand_all hh) (hand_nodup hh), if_true]
    refine fx_foldl (B := i_GreedyPicking_L1 n) (linesOf h) (fun i a => (((linesOf h).length : Int), (i : Int), a, linesOf h)) pickG (fun a => some (true, a)) (fun i a => a.length ≤ i) (fun i a _ ha => by have := pickG_len a (linesOf h)[i]; omega) (fun self i a hi ha => ?_) (fun self a _ => ?_) n (big_gt hn (by omega)) [] (by simp)
    · have e1 : decide ((i : Int) < ((linesOf h).length : Int)) = true := decide_eq_true (by omega)
      simp only [i_GreedyPicking_L1, e1, br_true, inb_ok hi, ckb_true, toNat_cast, gl_eq hi, lt_eq, contG_eq hn (l := a) (by omega), ob_some]
      rw [w64_succ (by omega), apok_ok (by omega) (by omega)]
      unfold pickG
      cases a.any fun b => meets b (linesOf h)[i] <;> simp
    · have e1 : decide (((linesOf h).length : Int) < ((linesOf h).length : Int)) = false := decide_eq_false (by omega)
      simp only [i_GreedyPicking_L1, e1, br_false]
end Go.Pl

/- Plain laws: L7, LLn, LLa, LLb. -/
import Derived.Test.YtklhncjpkkfjmaaG0
import Derived.Test.YtklhncjpkkfjmaaG1
import Derived.Test.YtklhncjpkkfjmaaPL
set_option linter.unusedVariables false
set_option linter.unusedSimpArgs false
namespace Go.Pl
open Go Go.Tv Go.RowKit

abbrev Ln := V3 Int
def eqn (x : Int) (b : Ln) (j : Nat) : Nat := if x = V3.get b j then 1 else 0
def eqs (x : Int) (b : Ln) : Nat := ((List.range' 0 (3 - 0)).map (eqn x b)).sum
def common (a b : Ln) : Nat := ((List.range' 0 (3 - 0)).map fun i => eqs (V3.get a i) b).sum
/-- do they meet? -/
def meets (a b : Ln) : Bool := (V3.els a).any fun x => (V3.els b).contains x
theorem eqs_val (x : Int) (b : Ln) : eqs x b = eqn x b 0 + eqn x b 1 + eqn x b 2 := by
  unfold eqs; simp [List.range'_succ]; omega
theorem eqn_le (x : Int) (b : Ln) (j : Nat) : eqn x b j ≤ 1 := by unfold eqn; split <;> omega
theorem eqs_le (x : Int) (b : Ln) : eqs x b ≤ 3 := by
  rw [eqs_val]; have := eqn_le x b 0; have := eqn_le x b 1; have := eqn_le x b 2; omega
theorem eqn_one (x : Int) (b : Ln) (j : Nat) : eqn x b j = 1 ↔ x = V3.get b j := by unfold eqn; split <;> simp [*]
theorem eqs_pos (x : Int) (b : Ln) : (0 < eqs x b) ↔ (V3.els b).contains x = true := by
  rw [eqs_val]
  have e0 := eqn_one x b 0; have e1 := eqn_one x b 1; have e2 := eqn_one x b 2
  have l0 := eqn_le x b 0; have l1 := eqn_le x b 1; have l2 := eqn_le x b 2
  simp only [V3.get] at e0 e1 e2
  simp only [V3.els, List.contains_cons, List.contains_nil, Bool.or_false, Bool.or_eq_true, beq_iff_eq]
  rw [← e0, ← e1, ← e2]; omega
theorem common_val (a b : Ln) : common a b = eqs a.x0 b + eqs a.x1 b + eqs a.x2 b := by
  unfold common; simp [List.range'_succ, V3.get]; omega
theorem common_le (a b : Ln) : common a b ≤ 9 := by
  rw [common_val]; have := eqs_le a.x0 b; have := eqs_le a.x1 b; have := eqs_le a.x2 b; omega
theorem common_pos (a b : Ln) : decide ((0 : Int) < (common a b : Int)) = meets a b := by
  have h0 := eqs_pos a.x0 b; have h1 := eqs_pos a.x1 b; have h2 := eqs_pos a.x2 b
  have : meets a b = true ↔ 0 < common a b := by
    rw [common_val]
    unfold meets
    simp only [V3.els, List.any_cons, List.any_nil, Bool.or_false, Bool.or_eq_true] at h0 h1 h2 ⊢
    rw [← h0, ← h1, ← h2]; omega
  rw [Bool.eq_iff_iff, decide_eq_true_eq, this]; omega

theorem s_l7Common_eq {n : Nat} (hn : BIG ≤ n) (a b : Ln) : s_l7Common n a b = some (common a b : Int) := by
  unfold s_l7Common
  have := fx_sum (B := s_l7Common_L2 n) 3 (fun i x => (x, (i : Int), a, b)) (fun i => eqs (V3.get a i) b) some 1000 (fun self i x hi h0 hM => ?_) (fun self x _ _ => by simp [s_l7Common_L2]) n 0 0 (by omega) (big_gt hn (by omega)) (by omega) (by have := common_le a b; unfold common at this; omega)
  · simpa [common] using this
  · have e1 : decide ((i : Int) < 3) = true := decide_eq_true (by omega)
    simp only [s_l7Common_L2, e1, br_true]
    refine fx_sum (B := s_l7Common_L1 n self) 3 (fun j x => (x, (i : Int), (j : Int), a, b)) (eqn (V3.get a i) b) (fun x => self (x, ((i + 1 : Nat) : Int), a, b)) 1000 (fun self2 j x hj h0 hM => ?_) (fun self2 x _ _ => ?_) n 0 x (by omega) (big_gt hn (by omega)) h0 (by unfold eqs at hM; exact hM)
    · have e2 : decide ((j : Int) < 3) = true := decide_eq_true (by omega)
      simp only [s_l7Common_L1, e2, br_true, inb_ok hi, inb_ok hj, ckb_true, toNat_cast, lt_eq]
      rw [w64_succ (by omega)]
      unfold eqn at hM ⊢
      by_cases hc : V3.get a i = V3.get b j
      · simp only [hc, decide_true, br_true, if_true] at hM ⊢
        rw [w64_id (by omega)]; rfl
      · simp [hc]
    · have e2 : decide (((3 : Nat) : Int) < 3) = false := by decide
      simp only [s_l7Common_L1, e2, br_false, lt_eq]
      rw [w64_succ (by omega)]

theorem slices_Index_int_eq {n : Nat} (hn : BIG ≤ n) {l : List Int} (hl : l.length ≤ 9223372036854775807) (v : Int) : slices_Index_Sint_int_ n l v = some (placeI (l.findIdx? fun x => decide (v = x))) := by
  unfold slices_Index_Sint_int_
  have := fx_find (B := slices_Index_Sint_int__L1 n) l (fun i => (l, v, (l.length : Int), (i : Int))) (fun x => decide (v = x)) (fun i => some (i : Int)) (some (-1)) (fun self i hi => ?_) (fun self => ?_) n (big_gt hn (by omega))
  · have e : ((0 : Nat) : Int) = 0 := rfl
    simp only [e] at this
    rw [this]; unfold placeI; cases l.findIdx? _ <;> rfl
  · have e1 : decide ((i : Int) < (l.length : Int)) = true := decide_eq_true (by omega)
    simp only [slices_Index_Sint_int__L1, e1, br_true, inb_ok hi, ckb_true, toNat_cast, gl_eq hi, lt_eq]
    rw [w64_succ (by omega)]
    by_cases hc : v = l[i] <;> simp [hc]
  · have e1 : decide ((l.length : Int) < (l.length : Int)) = false := decide_eq_false (by omega)
    simp only [slices_Index_Sint_int__L1, e1, br_false]
theorem placeI_nonneg (o : Option Nat) : decide (0 ≤ placeI o) = o.isSome := by
  cases o with
  | none => rfl
  | some i => simp [placeI]
theorem any_eq_contains {l : List Int} {v : Int} : (l.any fun x => decide (v = x)) = l.contains v := by
  rw [Bool.eq_iff_iff]; simp
theorem slices_Contains_int_eq {n : Nat} (hn : BIG ≤ n) {l : List Int} (hl : l.length ≤ 9223372036854775807) (v : Int) : slices_Contains_Sint_int_ n l v = some (l.contains v) := by
  unfold slices_Contains_Sint_int_
  rw [slices_Index_int_eq hn hl]
  simp only [ob_some, placeI_nonneg, List.findIdx?_isSome, any_eq_contains]

def hasn (x : Int) (b : Ln) : Nat := if (V3.els b).contains x = true then 1 else 0
theorem hasn_le (x : Int) (b : Ln) : hasn x b ≤ 1 := by unfold hasn; split <;> omega
theorem i_common_eq {n : Nat} (hn : BIG ≤ n) (a b : Ln) : i_common n a b = some ((hasn a.x0 b + hasn a.x1 b + hasn a.x2 b : Nat) : Int) := by
  unfold i_common
  have h0 := hasn_le a.x0 b; have h1 := hasn_le a.x1 b; have h2 := hasn_le a.x2 b
  have := fx_sum (B := i_common_L1 n) 3 (fun i x => (x, a, (i : Int), b)) (fun i => hasn (V3.get a i) b) some 1000 (fun self i x hi h0 hM => ?_) (fun self x _ _ => by simp [i_common_L1]) n 0 0 (by omega) (big_gt hn (by omega)) (by omega) (by simp [List.range'_succ, V3.get]; omega)
  · simp [List.range'_succ, V3.get] at this
    rw [this]; congr 1; omega
  · have e1 : decide ((i : Int) < 3) = true := decide_eq_true (by omega)
    simp only [i_common_L1, e1, br_true, inb_ok hi, ckb_true, toNat_cast, lt_eq, slices_Contains_int_eq hn (l := V3.els b) (by simp [V3.els]), ob_some]
    rw [w64_succ (by omega)]
    unfold hasn at hM ⊢
    cases hc : (V3.els b).contains (V3.get a i) with
    | true =>
      rw [hc] at hM
      simp only [if_true] at hM
      simp only [br_true, if_true]
      rw [w64_id (by omega)]; rfl
    | false => simp
theorem i_common_pos {n : Nat} (hn : BIG ≤ n) (a b : Ln) : ∃ k : Int, i_common n a b = some k ∧ decide (0 < k) = meets a b := by
  refine ⟨_, i_common_eq hn a b, ?_⟩
  have h : ∀ x, hasn x b = 1 ↔ (V3.els b).contains x = true := fun x => by unfold hasn; split <;> rename_i hh <;> simp only [hh, iff_true, iff_false] <;> decide
  have h0 := h a.x0; have h1 := h a.x1; have h2 := h a.x2
  have l0 := hasn_le a.x0 b; have l1 := hasn_le a.x1 b; have l2 := hasn_le a.x2 b
  have : meets a b = true ↔ 0 < hasn a.x0 b + hasn a.x1 b + hasn a.x2 b := by
    unfold meets
    rw [show V3.els a = [a.x0, a.x1, a.x2] from rfl]
    simp only [List.any_cons, List.any_nil, Bool.or_false, Bool.or_eq_true]
    rw [← h0, ← h1, ← h2]; omega
  rw [Bool.eq_iff_iff, decide_eq_true_eq, this]; omega
theorem meets_comm (a b : Ln) : meets a b = meets b a := by
  rw [Bool.eq_iff_iff]
  unfold meets
  simp only [List.any_eq_true, List.contains_iff_mem]
  constructor
  · rintro ⟨x, h1, h2⟩; exact ⟨x, h2, h1⟩
  · rintro ⟨x, h1, h2⟩; exact ⟨x, h2, h1⟩

/-! the greedy picking -/
def pickG (out : List Ln) (a : Ln) : List Ln := if (out.any fun b => meets b a) = true then out else out ++ [a]
def greedy (ls : List Ln) : List Ln := ls.foldl pickG []
theorem pickG_len (out : List Ln) (a : Ln) : (pickG out a).length ≤ out.length + 1 := by unfold pickG; split <;> simp
theorem greedy_len : ∀ (ls out : List Ln), (ls.foldl pickG out).length ≤ out.length + ls.length
  | [], out => by simp
  | a :: ls, out => by
    have := greedy_len ls (pickG out a)
    have := pickG_len out a
    simp only [List.foldl_cons, List.length_cons]; omega

theorem s_l7Free_eq {n : Nat} (hn : BIG ≤ n) {l : List Ln} (hl : l.length ≤ 9223372036854775807) (a : Ln) : s_l7Free n l a = some (!l.any fun b => meets b a) := by
  unfold s_l7Free
  have := fx_find (B := s_l7Free_L1 n) l (fun i => (l, (i : Int), a)) (fun b => meets b a) (fun _ => some false) (some true) (fun self i hi => ?_) (fun self => ?_) n (big_gt hn (by omega))
  · have e : ((0 : Nat) : Int) = 0 := rfl
    simp only [e] at this
    rw [this, ← findIdx?_any]; cases l.findIdx? _ <;> rfl
  · have e1 : decide ((i : Int) < (l.length : Int)) = true := decide_eq_true (by omega)
    simp only [s_l7Free_L1, e1, br_true, inb_ok hi, ckb_true, toNat_cast, gl_eq hi, lt_eq, s_l7Common_eq hn, ob_some, common_pos]
    rw [w64_succ (by omega)]
    cases meets l[i] a <;> simp
  · have e1 : decide ((l.length : Int) < (l.length : Int)) = false := decide_eq_false (by omega)
    simp only [s_l7Free_L1, e1, br_false]

theorem contG_eq {n : Nat} (hn : BIG ≤ n) {l : List Ln} (hl : l.length ≤ 9223372036854775807) (a : Ln) : slices_ContainsFunc_SA3_A3_'l_i_GreedyPicking_1p n l a = some (l.any fun b => meets b a, a) := by
  unfold slices_ContainsFunc_SA3_A3_'l_i_GreedyPicking_1p slices_IndexFunc_SA3_A3_'l_i_GreedyPicking_1p
  have := fx_find (B := slices_IndexFunc_SA3_A3_'l_i_GreedyPicking_1p_L1 n) l (fun i => (l, (l.length : Int), (i : Int), a)) (fun b => meets b a) (fun i => some ((i : Int), a)) (some (-1, a)) (fun self i hi => ?_) (fun self => ?_) n (big_gt hn (by omega))
  · have e : ((0 : Nat) : Int) = 0 := rfl
    simp only [e] at this
    rw [this, ← findIdx?_any]; cases l.findIdx? _ <;> simp
  · have e1 : decide ((i : Int) < (l.length : Int)) = true := decide_eq_true (by omega)
    obtain ⟨k, h1, h2⟩ := i_common_pos hn a l[i]
    simp only [slices_IndexFunc_SA3_A3_'l_i_GreedyPicking_1p_L1, e1, br_true, inb_ok hi, ckb_true, toNat_cast, gl_eq hi, lt_eq, i_GreedyPicking_1'p, h1, ob_some, h2]
    rw [w64_succ (by omega), meets_comm]
    cases meets l[i] a <;> simp
  · have e1 : decide ((l.length : Int) < (l.length : Int)) = false := decide_eq_false (by omega)
    simp only [slices_IndexFunc_SA3_A3_'l_i_GreedyPicking_1p_L1, e1, br_false]

def greedyH (h : List Card) : Bool × List Ln := if hand h = true then (true, greedy (linesOf h)) else (false, [])
theorem s_GreedyPicking_eq {n : Nat} (hn : BIG ≤ n) {h : List Card} (hl : h.length ≤ 1048576) : s_GreedyPicking n h = some (greedyH h) := by
  unfold s_GreedyPicking greedyH
  rw [s_l2Hand_eq hn (by omega)]
  cases hh : hand h with
  | false => simp
  | true =>
    have h27 := hand_len hh
    have hll := linesOf_len (h := h)
    have hb : h.length * h.length ≤ 27 * 27 := Nat.mul_le_mul h27 h27
    simp only [ob_some, Bool.not_true, br_false, s_l2Lines_eq hn (show h.length ≤ 81 by omega) (hand_all hh), if_true]
    refine fx_foldl (B := s_GreedyPicking_L1 n) (linesOf h) (fun i a => ((i : Int), a, linesOf h)) pickG (fun a => some (true, a)) (fun i a => a.length ≤ i) (fun i a _ ha => by have := pickG_len a (linesOf h)[i]; omega) (fun self i a hi ha => ?_) (fun self a _ => ?_) n (big_gt hn (by omega)) [] (by simp)
    · have e1 : decide ((i : Int) < ((linesOf h).length : Int)) = true := decide_eq_true (by omega)
      simp only [s_GreedyPicking_L1, e1, br_true, inb_ok hi, ckb_true, toNat_cast, gl_eq hi, lt_eq, s_l7Free_eq hn (l := a) (by omega), ob_some]
      rw [w64_succ (by omega), apok_ok (by omega) (by omega)]
      unfold pickG
      cases a.any fun b => meets b (linesOf h)[i] <;> simp
    · have e1 : decide (((linesOf h).length : Int) < ((linesOf h).length : Int)) = false := decide_eq_false (by omega)
      simp only [s_GreedyPicking_L1, e1, br_false]
theorem i_GreedyPicking_eq {n : Nat} (hn : BIG ≤ n) {h : List Card} (hl : h.length ≤ 1048576) : i_GreedyPicking n h = some (greedyH h) := by
  unfold i_GreedyPicking greedyH
  rw [i_IsHand_eq hn (by omega)]
  cases hh : hand h with
  | false => simp
  | true =>
    have h27 := hand_len hh
    have hll := linesOf_len (h := h)
    have hb : h.length * h.length ≤ 27 * 27 := Nat.mul_le_mul h27 h27
    simp only [ob_some, Bool.not_true, br_false, i_linesIn_eq hn (show h.length ≤ 81 by omega) (hand_all hh) (hand_nodup hh), if_true]
    refine fx_foldl (B := i_GreedyPicking_L1 n) (linesOf h) (fun i a => (((linesOf h).length : Int), (i : Int), a, linesOf h)) pickG (fun a => some (true, a)) (fun i a => a.length ≤ i) (fun i a _ ha => by have := pickG_len a (linesOf h)[i]; omega) (fun self i a hi ha => ?_) (fun self a _ => ?_) n (big_gt hn (by omega)) [] (by simp)
    · have e1 : decide ((i : Int) < ((linesOf h).length : Int)) = true := decide_eq_true (by omega)
      simp only [i_GreedyPicking_L1, e1, br_true, inb_ok hi, ckb_true, toNat_cast, gl_eq hi, lt_eq, contG_eq hn (l := a) (by omega), ob_some]
      rw [w64_succ (by omega), apok_ok (by omega) (by omega)]
      unfold pickG
      cases a.any fun b => meets b (linesOf h)[i] <;> simp
    · have e1 : decide (((linesOf h).length : Int) < ((linesOf h).length : Int)) = false := decide_eq_false (by omega)
      simp only [i_GreedyPicking_L1, e1, br_false]
end Go.Pl
namespace Go.Pl
open Go Go.Tv Go.RowKit
set_option linter.unusedVariables false

/-! lines of a hand -/
abbrev gz (h : List Card) (i : Nat) : Card := gl (⟨0, 0, 0, 0⟩ : Card) h i
theorem place_get {h : List Card} {c : Card} {k : Nat} (e : place h c = (k : Int)) : k < h.length ∧ gz h k = c := by
  unfold place placeI at e
  cases hf : h.findIdx? (fun x => decide (x = c)) with
  | none => rw [hf] at e; simp only at e; omega
  | some i =>
    rw [hf] at e
    simp only at e
    obtain ⟨h1, h2, _⟩ := List.findIdx?_eq_some_iff_getElem.1 hf
    have : i = k := by omega
    subst this
    refine ⟨h1, ?_⟩
    show gl _ h i = c
    rw [gl_eq h1]; exact of_decide_eq_true h2
theorem place_gz {h : List Card} (H : HandL h) {k : Nat} (hk : k < h.length) : place h (gz h k) = (k : Int) := by
  refine place_of H.nd ?_
  rw [List.getElem?_eq_getElem hk]
  show some h[k] = some (gl _ h k)
  rw [gl_eq hk]
/-- a line of places -/
structure LineAt (h : List Card) (i j k : Nat) : Prop where
  ij : i < j
  jk : j < k
  kl : k < h.length
  e : third (gz h i) (gz h j) = gz h k
theorem mem_lines {h : List Card} (H : HandL h) {x : V3 Int} : x ∈ linesOf h ↔ ∃ i j k : Nat, x = ⟨(i : Int), (j : Int), (k : Int)⟩ ∧ LineAt h i j k := by
  unfold linesOf ln2
  simp only [List.mem_flatMap, List.mem_range'_1]
  constructor
  · rintro ⟨i, ⟨_, hi⟩, j, ⟨hj1, hj2⟩, hx⟩
    unfold ln1 at hx
    split at hx
    · rename_i hp
      obtain ⟨k, hk⟩ : ∃ k : Nat, place h (third (gl zz h i) (gl zz h j)) = (k : Int) := ⟨(place h (third (gl zz h i) (gl zz h j))).toNat, by omega⟩
      obtain ⟨g1, g2⟩ := place_get hk
      rw [List.mem_singleton] at hx
      exact ⟨i, j, k, by rw [hx, hk], by omega, by omega, g1, g2.symm⟩
    · cases hx
  · rintro ⟨i, j, k, rfl, L⟩
    have h1 := L.ij; have h2 := L.jk; have h3 := L.kl
    refine ⟨i, ⟨by omega, by omega⟩, j, ⟨by omega, by omega⟩, ?_⟩
    have hp : place h (third (gl zz h i) (gl zz h j)) = (k : Int) := by
      have : third (gl zz h i) (gl zz h j) = gz h k := L.e
      rw [this, place_gz H L.kl]
    unfold ln1
    rw [hp, if_pos (by omega)]
    exact List.mem_singleton.2 rfl
theorem lines_nd {h : List Card} (H : HandL h) : (linesOf h).Nodup := by
  unfold linesOf List.Nodup
  rw [List.pairwise_flatMap]
  have m2 : ∀ i x, x ∈ ln2 h i → x.x0 = (i : Int) := fun i x hx => by
    unfold ln2 at hx
    obtain ⟨j, _, hx⟩ := List.mem_flatMap.1 hx
    unfold ln1 at hx
    split at hx
    · rw [List.mem_singleton] at hx; rw [hx]
    · cases hx
  refine ⟨fun i _ => ?_, List.Pairwise.imp (fun {a b} hab x hx y hy e => ?_) (List.nodup_range' (step := 1))⟩
  · unfold ln2
    rw [List.pairwise_flatMap]
    refine ⟨fun j _ => ?_, List.Pairwise.imp (fun {a b} hab x hx y hy e => ?_) (List.nodup_range' (step := 1))⟩
    · unfold ln1; split
      · exact List.pairwise_singleton _ _
      · exact List.Pairwise.nil
    · have m1 : ∀ j x, x ∈ ln1 h i j → x.x1 = (j : Int) := fun j x hx => by
        unfold ln1 at hx
        split at hx
        · rw [List.mem_singleton] at hx; rw [hx]
        · cases hx
      have h1 := m1 a x hx; have h2 := m1 b y hy
      rw [e] at h1; omega
  · have h1 := m2 a x hx; have h2 := m2 b y hy
    rw [e] at h1; omega
def onL (l : V3 Int) (i : Nat) : Bool := decide (l.x0 = (i : Int)) || decide (l.x1 = (i : Int)) || decide (l.x2 = (i : Int))
theorem onL_iff {l : V3 Int} {i : Nat} : onL l i = true ↔ l.x0 = (i : Int) ∨ l.x1 = (i : Int) ∨ l.x2 = (i : Int) := by
  unfold onL; simp only [Bool.or_eq_true, decide_eq_true_eq, or_assoc]
/-- each of a line's cards is the third one of the others -/
theorem LineAt.all {h : List Card} (H : HandL h) {i j k : Nat} (L : LineAt h i j k) : third (gz h i) (gz h j) = gz h k ∧ third (gz h i) (gz h k) = gz h j ∧ third (gz h j) (gz h k) = gz h i := by
  have h1 := L.ij; have h2 := L.jk; have h3 := L.kl
  have ci : isC (gz h i) = true := gl_C H.c (by omega)
  have cj : isC (gz h j) = true := gl_C H.c (by omega)
  refine ⟨L.e, ?_, ?_⟩
  · rw [← L.e, th_back ci cj]
  · rw [← L.e, th_comm (gz h i), th_back cj ci]
theorem line_rest {h : List Card} (H : HandL h) {i j k : Nat} (L : LineAt h i j k) {p q : Nat} (hpq : p ≠ q) (hp : p = i ∨ p = j ∨ p = k) (hq : q = i ∨ q = j ∨ q = k) :
    ∃ r, (r = i ∨ r = j ∨ r = k) ∧ r < h.length ∧ gz h r = third (gz h p) (gz h q) ∧ ∀ s, (s = i ∨ s = j ∨ s = k) → s = p ∨ s = q ∨ s = r := by
  have h1 := L.ij; have h2 := L.jk; have h3 := L.kl
  obtain ⟨a1, a2, a3⟩ := L.all H
  rcases hp with rfl | rfl | rfl <;> rcases hq with rfl | rfl | rfl
  · exact absurd rfl hpq
  · exact ⟨k, by omega, by omega, a1.symm, by omega⟩
  · exact ⟨j, by omega, by omega, a2.symm, by omega⟩
  · exact ⟨k, by omega, by omega, by rw [th_comm]; exact a1.symm, by omega⟩
  · exact absurd rfl hpq
  · exact ⟨i, by omega, by omega, a3.symm, by omega⟩
  · exact ⟨j, by omega, by omega, by rw [th_comm]; exact a2.symm, by omega⟩
  · exact ⟨i, by omega, by omega, by rw [th_comm]; exact a3.symm, by omega⟩
  · exact absurd rfl hpq
theorem gz_inj {h : List Card} (H : HandL h) {i j : Nat} (hi : i < h.length) (hj : j < h.length) (e : gz h i = gz h j) : i = j :=
  Classical.byContradiction fun hne => H.ne hi hj hne e
theorem line_uniq {h : List Card} (H : HandL h) {x y : V3 Int} (hx : x ∈ linesOf h) (hy : y ∈ linesOf h) {p q : Nat} (hpq : p ≠ q) (xp : onL x p = true) (xq : onL x q = true) (yp : onL y p = true) (yq : onL y q = true) : x = y := by
  obtain ⟨i, j, k, rfl, L⟩ := (mem_lines H).1 hx
  obtain ⟨i', j', k', rfl, L'⟩ := (mem_lines H).1 hy
  rw [onL_iff] at xp xq yp yq
  simp only [] at xp xq yp yq
  obtain ⟨r, r1, r2, r3, r4⟩ := line_rest H L hpq (by omega) (by omega)
  obtain ⟨r', r1', r2', r3', r4'⟩ := line_rest H L' hpq (by omega) (by omega)
  have : r = r' := gz_inj H r2 r2' (r3.trans r3'.symm)
  subst this
  have s1 := r4 i (by omega); have s2 := r4 j (by omega); have s3 := r4 k (by omega)
  have s1' := r4' i' (by omega); have s2' := r4' j' (by omega); have s3' := r4' k' (by omega)
  have e1 := L.ij; have e2 := L.jk; have e1' := L'.ij; have e2' := L'.jk
  simp only [V3.mk.injEq]
  omega
theorem mem_gz {d : List Card} {c : Card} : c ∈ d ↔ ∃ q, q < d.length ∧ gz d q = c := by
  constructor
  · intro h
    obtain ⟨q, hq, e⟩ := List.getElem_of_mem h
    exact ⟨q, hq, by show gl _ d q = c; rw [gl_eq hq, e]⟩
  · rintro ⟨q, hq, e⟩
    have e : gl _ d q = c := e
    rw [gl_eq hq] at e
    exact e ▸ List.getElem_mem hq
theorem line_ex {h : List Card} (H : HandL h) {p q : Nat} (hpq : q < p) (hp : p < h.length) (hm : h.contains (third (gz h p) (gz h q)) = true) : ∃ x ∈ linesOf h, onL x p = true ∧ onL x q = true := by
  have cp : isC (gz h p) = true := gl_C H.c hp
  have cq : isC (gz h q) = true := gl_C H.c (by omega)
  obtain ⟨r, hr, e⟩ := mem_gz.1 (List.contains_iff_mem.1 hm)
  have hne : gz h p ≠ gz h q := H.ne hp (by omega) (by omega)
  have rp : r ≠ p := fun h' => th_ne cp cq hne (by rw [← e, h'])
  have rq : r ≠ q := fun h' => th_ne2 cp cq hne (by rw [← e, h'])
  have e1 : third (gz h p) (gz h q) = gz h r := e.symm
  have e2 : third (gz h p) (gz h r) = gz h q := by rw [← e1, th_back cp cq]
  have e3 : third (gz h q) (gz h r) = gz h p := by rw [← e1, th_comm (gz h p), th_back cq cp]
  have mk : ∀ i j k : Nat, i < j → j < k → k < h.length → third (gz h i) (gz h j) = gz h k → (⟨(i : Int), (j : Int), (k : Int)⟩ : V3 Int) ∈ linesOf h := fun i j k a b c d => (mem_lines H).2 ⟨i, j, k, rfl, a, b, c, d⟩
  rcases Nat.lt_or_gt_of_ne rp with h1 | h1
  · rcases Nat.lt_or_gt_of_ne rq with h2 | h2
    · exact ⟨_, mk r q p h2 hpq hp (by rw [th_comm]; exact e3), onL_iff.2 (.inr (.inr rfl)), onL_iff.2 (.inr (.inl rfl))⟩
    · exact ⟨_, mk q r p h2 h1 hp e3, onL_iff.2 (.inr (.inr rfl)), onL_iff.2 (.inl rfl)⟩
  · exact ⟨_, mk q p r hpq h1 hr (by rw [th_comm]; exact e1), onL_iff.2 (.inr (.inl rfl)), onL_iff.2 (.inl rfl)⟩

/-! counting -/
theorem S_ind {n a : Nat} (h : a < n) (q : Nat → Bool) : (S n fun i => b2 (decide (a = i) && q i)) = b2 (q a) := by
  have z : ∀ m, m ≤ a → (S m fun i => b2 (decide (a = i) && q i)) = 0 := fun m hm => by
    rw [S_congr (g := fun _ => 0) fun i hi => by simp [b2, show ¬ a = i by omega], S_zero]
  induction n with
  | zero => omega
  | succ n ih =>
    rw [S]
    by_cases hn : a = n
    · subst hn; rw [z a (Nat.le_refl _)]; simp
    · rw [ih (by omega)]; simp [b2, hn]
theorem b2_or {a b c : Bool} (h1 : ¬ (a = true ∧ b = true)) (h2 : ¬ (a = true ∧ c = true)) (h3 : ¬ (b = true ∧ c = true)) : b2 (a || b || c) = b2 a + b2 b + b2 c := by
  cases a <;> cases b <;> cases c <;> simp_all [b2]
theorem S_on {n i j k : Nat} (hij : i < j) (hjk : j < k) (hk : k < n) (q : Nat → Bool) : (S n fun p => b2 (onL ⟨(i : Int), (j : Int), (k : Int)⟩ p && q p)) = b2 (q i) + b2 (q j) + b2 (q k) := by
  have e : ∀ p, b2 (onL ⟨(i : Int), (j : Int), (k : Int)⟩ p && q p) = b2 (decide (i = p) && q p) + b2 (decide (j = p) && q p) + b2 (decide (k = p) && q p) := fun p => by
    rw [← b2_or]
    · unfold onL
      simp only []
      have d : ∀ a : Nat, decide ((a : Int) = (p : Int)) = decide (a = p) := fun a => by congr 1; apply propext; omega
      rw [d, d, d]
      cases q p <;> simp
    all_goals
      simp only [Bool.and_eq_true, decide_eq_true_eq]
      omega
  rw [S_congr fun p _ => e p, S_add, S_add, S_ind (by omega), S_ind (by omega), S_ind hk]
theorem S_on3 {n : Nat} {h : List Card} (H : HandL h) (hn : h.length = n) {x : V3 Int} (hx : x ∈ linesOf h) : (S n fun p => b2 (onL x p)) = 3 := by
  obtain ⟨i, j, k, rfl, L⟩ := (mem_lines H).1 hx
  have := S_on L.ij L.jk (hn ▸ L.kl) fun _ => true
  simp only [Bool.and_true] at this
  rw [this]; rfl
/-- how many lines a place has -/
def cntL (h : List Card) (i : Nat) : Nat := (linesOf h).countP fun x => onL x i
theorem gl_mem {α : Type} {z : α} {l : List α} {i : Nat} (h : i < l.length) : gl z l i ∈ l := by rw [gl_eq h]; exact List.getElem_mem h
theorem sum_cnt {h : List Card} (H : HandL h) : S h.length (cntL h) = 3 * (linesOf h).length := by
  have e : ∀ i, i < h.length → cntL h i = S (linesOf h).length fun m => b2 (onL (gl ⟨0, 0, 0⟩ (linesOf h) m) i) := fun i _ => (S_countP (fun x => onL x i) ⟨0, 0, 0⟩ (linesOf h)).symm
  rw [S_congr e, S_swap (fun i m => b2 (onL (gl ⟨0, 0, 0⟩ (linesOf h) m) i)), S_congr (g := fun _ => 3) fun m hm => S_on3 H rfl (gl_mem hm), S_const, Nat.mul_comm]
theorem pair_third {h : List Card} (H : HandL h) {i k : Nat} (hk : k < i) (hi : i < h.length) : b2 (h.contains (third (gz h i) (gz h k))) = (linesOf h).countP fun x => onL x i && onL x k := by
  rw [countP_one (lines_nd H) fun a ha b hb pa pb => by
    rw [Bool.and_eq_true] at pa pb
    exact line_uniq H ha hb (p := i) (q := k) (by omega) pa.1 pa.2 pb.1 pb.2]
  congr 1
  rw [Bool.eq_iff_iff, List.any_eq_true]
  constructor
  · intro hm
    obtain ⟨x, hx, h1, h2⟩ := line_ex H hk hi hm
    exact ⟨x, hx, by rw [h1, h2]; rfl⟩
  · rintro ⟨x, hx, hp⟩
    rw [Bool.and_eq_true] at hp
    obtain ⟨a, b, c, rfl, L⟩ := (mem_lines H).1 hx
    obtain ⟨h1, h2⟩ := hp
    rw [onL_iff] at h1 h2
    simp only [] at h1 h2
    obtain ⟨r, r1, r2, r3, r4⟩ := line_rest H L (p := i) (q := k) (by omega) (by omega) (by omega)
    rw [← r3]
    exact List.contains_iff_mem.2 (gl_mem r2)
/-- pairs whose third card is there -/
theorem shut_pairs {h : List Card} (H : HandL h) : (T h.length fun i k => b2 (h.contains (third (gz h i) (gz h k)))) = 3 * (linesOf h).length := by
  have e : ∀ i k, k < i → i < h.length → b2 (h.contains (third (gz h i) (gz h k))) = S (linesOf h).length fun m => b2 (onL (gl ⟨0, 0, 0⟩ (linesOf h) m) i && onL (gl ⟨0, 0, 0⟩ (linesOf h) m) k) := fun i k hk hi => by
    rw [pair_third H hk hi, S_countP (fun x => onL x i && onL x k)]
  rw [T_congr e, T_swap (fun m i k => b2 (onL (gl ⟨0, 0, 0⟩ (linesOf h) m) i && onL (gl ⟨0, 0, 0⟩ (linesOf h) m) k)), S_congr (g := fun _ => 3) fun m hm => by
    rw [T_and (onL (gl ⟨0, 0, 0⟩ (linesOf h) m)), S_on3 H rfl (gl_mem hm)]; rfl, S_const, Nat.mul_comm]
theorem open_pairs {h : List Card} (H : HandL h) : (T h.length fun i k => b2 (!h.contains (third (gz h i) (gz h k)))) + 3 * (linesOf h).length = c2' h.length := by
  rw [← shut_pairs H, ← T_add]
  rw [T_congr (g := fun _ _ => 1) fun i k _ _ => by cases h.contains (third (gz h i) (gz h k)) <;> rfl, T_const, Nat.mul_one]
/-- how many places two lines have in common -/
def comm (a b : V3 Int) : Nat := hasn a.x0 b + hasn a.x1 b + hasn a.x2 b
theorem hasn_on {b : V3 Int} {i : Nat} : hasn (i : Int) b = b2 (onL b i) := by
  unfold hasn onL b2 V3.els
  have e : ([b.x0, b.x1, b.x2].contains (i : Int) = true) ↔ ((decide (b.x0 = (i : Int)) || decide (b.x1 = (i : Int)) || decide (b.x2 = (i : Int))) = true) := by
    simp only [List.contains_cons, List.contains_nil, Bool.or_false, Bool.or_eq_true, beq_iff_eq, decide_eq_true_eq]
    constructor
    · rintro (h | h | h) <;> simp [h]
    · rintro ((h | h) | h) <;> simp [h]
  by_cases h : ([b.x0, b.x1, b.x2].contains (i : Int) = true)
  · rw [if_pos h, if_pos (e.1 h)]
  · rw [if_neg h, if_neg fun h' => h (e.2 h')]
theorem comm_S {h : List Card} (H : HandL h) {a : V3 Int} (ha : a ∈ linesOf h) (b : V3 Int) : (S h.length fun i => b2 (onL a i && onL b i)) = comm a b := by
  obtain ⟨i, j, k, rfl, L⟩ := (mem_lines H).1 ha
  rw [S_on L.ij L.jk L.kl (onL b)]
  unfold comm
  simp only []
  rw [hasn_on, hasn_on, hasn_on]
theorem comm_le {h : List Card} (H : HandL h) {a b : V3 Int} (ha : a ∈ linesOf h) (hb : b ∈ linesOf h) (hne : a ≠ b) : comm a b ≤ 1 := by
  have ha' := ha
  obtain ⟨i, j, k, rfl, L⟩ := (mem_lines H).1 ha'
  have e1 := L.ij; have e2 := L.jk
  unfold comm
  simp only []
  rw [hasn_on, hasn_on, hasn_on]
  have oi : onL ⟨(i : Int), (j : Int), (k : Int)⟩ i = true := onL_iff.2 (.inl rfl)
  have oj : onL ⟨(i : Int), (j : Int), (k : Int)⟩ j = true := onL_iff.2 (.inr (.inl rfl))
  have ok : onL ⟨(i : Int), (j : Int), (k : Int)⟩ k = true := onL_iff.2 (.inr (.inr rfl))
  cases b1 : onL b i <;> cases b2' : onL b j <;> cases b3 : onL b k <;> simp [b2]
  · exact hne (line_uniq H ha hb (p := j) (q := k) (by omega) oj ok b2' b3)
  · exact hne (line_uniq H ha hb (p := i) (q := k) (by omega) oi ok b1 b3)
  · exact hne (line_uniq H ha hb (p := i) (q := j) (by omega) oi oj b1 b2')
  · exact hne (line_uniq H ha hb (p := i) (q := j) (by omega) oi oj b1 b2')
theorem common_comm {h : List Card} (H : HandL h) (a : V3 Int) {b : V3 Int} (hb : b ∈ linesOf h) : common a b = comm a b := by
  obtain ⟨i, j, k, rfl, L⟩ := (mem_lines H).1 hb
  have e1 := L.ij; have e2 := L.jk
  have key : ∀ x : Int, eqs x ⟨(i : Int), (j : Int), (k : Int)⟩ = hasn x ⟨(i : Int), (j : Int), (k : Int)⟩ := fun x => by
    rw [eqs_val]
    unfold eqn hasn V3.els V3.get
    simp only [List.contains_cons, List.contains_nil, Bool.or_false, Bool.or_eq_true, beq_iff_eq]
    by_cases h1 : x = (i : Int)
    · rw [if_pos h1, if_neg (show ¬ x = (j : Int) by omega), if_neg (show ¬ x = (k : Int) by omega), if_pos (.inl h1)]
    · by_cases h2 : x = (j : Int)
      · rw [if_neg h1, if_pos h2, if_neg (show ¬ x = (k : Int) by omega), if_pos (.inr (.inl h2))]
      · by_cases h3 : x = (k : Int)
        · rw [if_neg h1, if_neg h2, if_pos h3, if_pos (.inr (.inr h3))]
        · rw [if_neg h1, if_neg h2, if_neg h3, if_neg (by rintro (h | h | h) <;> contradiction)]
  rw [common_val, key, key, key]; rfl
/-- crossings -/
def cross (h : List Card) : Nat := T (linesOf h).length fun i k => comm (gl ⟨0, 0, 0⟩ (linesOf h) i) (gl ⟨0, 0, 0⟩ (linesOf h) k)
theorem cross_cnt {h : List Card} (H : HandL h) : (S h.length fun i => c2' (cntL h i)) = cross h := by
  have e : ∀ i, i < h.length → c2' (cntL h i) = T (linesOf h).length fun a b => b2 (onL (gl ⟨0, 0, 0⟩ (linesOf h) a) i && onL (gl ⟨0, 0, 0⟩ (linesOf h) b) i) := fun i _ => by
    rw [T_and fun m => onL (gl ⟨0, 0, 0⟩ (linesOf h) m) i]
    unfold cntL
    rw [← S_countP (fun x => onL x i) ⟨0, 0, 0⟩ (linesOf h)]
  rw [S_congr e, ← T_swap (fun i a b => b2 (onL (gl ⟨0, 0, 0⟩ (linesOf h) a) i && onL (gl ⟨0, 0, 0⟩ (linesOf h) b) i))]
  exact T_congr fun a b hab ha => comm_S H (gl_mem ha) _
theorem cross_one {h : List Card} (H : HandL h) : (T (linesOf h).length fun i k => b2 (decide (common (gl ⟨0, 0, 0⟩ (linesOf h) i) (gl ⟨0, 0, 0⟩ (linesOf h) k) = 1))) = cross h := by
  refine T_congr fun i k hk hi => ?_
  have hi' := gl_mem (z := (⟨0, 0, 0⟩ : V3 Int)) hi
  have hk' := gl_mem (z := (⟨0, 0, 0⟩ : V3 Int)) (show k < (linesOf h).length by omega)
  rw [common_comm H _ hk']
  have hne : gl (⟨0, 0, 0⟩ : V3 Int) (linesOf h) i ≠ gl (⟨0, 0, 0⟩ : V3 Int) (linesOf h) k := by
    rw [gl_eq hi, gl_eq (show k < (linesOf h).length by omega)]
    exact fun e => by have := (List.getElem_inj (lines_nd H)).1 e; omega
  have := comm_le H hi' hk' hne
  unfold b2
  by_cases h1 : comm (gl (⟨0, 0, 0⟩ : V3 Int) (linesOf h) i) (gl (⟨0, 0, 0⟩ : V3 Int) (linesOf h) k) = 1
  · simp [h1]
  · simp [h1]; omega
end Go.Pl
namespace Go.Pl
open Go Go.Tv Go.RowKit
set_option linter.unusedVariables false

/-! words of the laws on lists -/
theorem v_vInts_eq {n : Nat} (hn : BIG ≤ n) {a b : List Int} (hl : a.length ≤ 9223372036854775806) : v_vInts n a b = some (decide (a = b)) := by
  unfold v_vInts
  by_cases hlen : a.length = b.length
  · have e0 : decide ((a.length : Int) = (b.length : Int)) = true := decide_eq_true (by omega)
    simp only [e0, Bool.not_true, br_false]
    have := fx_cnt (B := v_vInts_L1 n) a.length (fun i => (a, b, (i : Int))) (fun _ => True) (fun i => some (decide (a.drop i = b.drop i))) (fun self i hi _ ih => by
      simp only [v_vInts_L1]
      by_cases h : i < a.length
      · have e1 : decide ((i : Int) < (a.length : Int)) = true := decide_eq_true (by omega)
        simp only [e1, br_true, inb_ok h, inb_ok (show i < b.length by omega), ckb_true, toNat_cast, gl_eq h, gl_eq (show i < b.length by omega), lt_eq]
        rw [List.drop_eq_getElem_cons h, List.drop_eq_getElem_cons (show i < b.length by omega)]
        by_cases hc : a[i] = b[i]
        · simp only [hc, decide_true, Bool.not_true, br_false, List.cons.injEq, true_and]
          rw [w64_succ (by omega)]; exact ih h trivial
        · have hne : ¬ (a[i] :: a.drop (i + 1) = b[i] :: b.drop (i + 1)) := fun e => hc (List.cons.inj e).1
          rw [decide_eq_false hne, decide_eq_false hc]; rfl
      · have e1 : decide ((i : Int) < (a.length : Int)) = false := decide_eq_false (by omega)
        simp only [e1, br_false]
        rw [List.drop_eq_nil_of_le (by omega), List.drop_eq_nil_of_le (by omega)]; simp) n 0 (Nat.zero_le _) trivial (big_gt hn (by omega))
    simpa using this
  · have e0 : decide ((a.length : Int) = (b.length : Int)) = false := decide_eq_false (by omega)
    simp only [e0, Bool.not_false, br_true]
    have : a ≠ b := fun h => hlen (by rw [h])
    simp [this]
theorem v_vLines_eq {n : Nat} (hn : BIG ≤ n) {a b : List (V3 Int)} (hl : a.length ≤ 9223372036854775806) : v_vLines n a b = some (decide (a = b)) := by
  unfold v_vLines
  by_cases hlen : a.length = b.length
  · have e0 : decide ((a.length : Int) = (b.length : Int)) = true := decide_eq_true (by omega)
    simp only [e0, Bool.not_true, br_false]
    have := fx_cnt (B := v_vLines_L1 n) a.length (fun i => (a, b, (i : Int))) (fun _ => True) (fun i => some (decide (a.drop i = b.drop i))) (fun self i hi _ ih => by
      simp only [v_vLines_L1]
      by_cases h : i < a.length
      · have e1 : decide ((i : Int) < (a.length : Int)) = true := decide_eq_true (by omega)
        simp only [e1, br_true, inb_ok h, inb_ok (show i < b.length by omega), ckb_true, toNat_cast, gl_eq h, gl_eq (show i < b.length by omega), lt_eq]
        rw [List.drop_eq_getElem_cons h, List.drop_eq_getElem_cons (show i < b.length by omega)]
        by_cases hc : a[i] = b[i]
        · simp only [eqd, hc, decide_true, Bool.not_true, br_false, List.cons.injEq, true_and]
          rw [w64_succ (by omega)]; exact ih h trivial
        · have hne : ¬ (a[i] :: a.drop (i + 1) = b[i] :: b.drop (i + 1)) := fun e => hc (List.cons.inj e).1
          rw [decide_eq_false hne]; unfold eqd; rw [decide_eq_false hc]; rfl
      · have e1 : decide ((i : Int) < (a.length : Int)) = false := decide_eq_false (by omega)
        simp only [e1, br_false]
        rw [List.drop_eq_nil_of_le (by omega), List.drop_eq_nil_of_le (by omega)]; simp) n 0 (Nat.zero_le _) trivial (big_gt hn (by omega))
    simpa using this
  · have e0 : decide ((a.length : Int) = (b.length : Int)) = false := decide_eq_false (by omega)
    simp only [e0, Bool.not_false, br_true]
    have : a ≠ b := fun h => hlen (by rw [h])
    simp [this]

/-- a loop that filters a list -/
theorem fx_filter {σ ρ α : Type} {B : (σ → Opt ρ) → σ → Opt ρ} (l : List α) (st : Nat → List α → σ) (p : α → Bool) (fin : List α → Opt ρ)
    (step : ∀ self i a (h : i < l.length), a.length ≤ i → B self (st i a) = self (st (i + 1) (if p l[i] = true then a ++ [l[i]] else a))) (stop : ∀ self a, B self (st l.length a) = fin a) (n : Nat) (hn : l.length < n) :
    fx B n (st 0 []) = fin (l.filter p) := by
  have hf := fx_foldl (B := B) l st (fun a x => if p x = true then a ++ [x] else a) fin (fun i a => a.length ≤ i) (fun i a h hi => by
    show (if p l[i] = true then a ++ [l[i]] else a).length ≤ i + 1
    split
    · rw [List.length_append, List.length_singleton]; omega
    · omega) (fun self i a h hi => step self i a h hi) (fun self a _ => stop self a) n hn [] (Nat.le_refl _)
  rw [hf]
  congr 1
  have : ∀ (l a : List α), l.foldl (fun a x => if p x = true then a ++ [x] else a) a = a ++ l.filter p := by
    intro l
    induction l with
    | nil => intro a; simp
    | cons x l ih => intro a; rw [List.foldl_cons, ih, List.filter_cons]; split <;> simp
  rw [this]; simp

/-! lines at a place -/
def onI (l : V3 Int) (i : Int) : Bool := decide (l.x0 = i) || decide (l.x1 = i) || decide (l.x2 = i)
theorem s_l7At_eq {n : Nat} (hn : BIG ≤ n) {L : List (V3 Int)} (hl : L.length ≤ 1000000) (i : Int) : s_l7At n L i = some (L.filter fun l => onI l i) := by
  unfold s_l7At
  refine fx_filter (B := s_l7At_L1 n) L (fun k a => (L, i, (k : Int), a)) (fun l => onI l i) some (fun self k a hk ha => ?_) (fun self a => ?_) n (big_gt hn (by omega))
  · simp only [s_l7At_L1, br_some, ob_some, lt_eq]
    rw [br_pos (decide_eq_true (show (k : Int) < (L.length : Int) by omega)), ckb_pos (inb_ok hk), toNat_cast, gl_eq hk, w64_succ (by omega)]
    have e : (if (if decide (L[k].x0 = i) = true then true else decide (L[k].x1 = i)) = true then true else decide (L[k].x2 = i)) = onI L[k] i := by
      unfold onI; cases decide (L[k].x0 = i) <;> cases decide (L[k].x1 = i) <;> simp
    rw [e]
    cases onI L[k] i with
    | true => rw [br_true, ckb_pos (apok_ok (by omega) (by omega)), if_pos rfl]
    | false => rw [br_false]; simp
  · simp only [s_l7At_L1]
    rw [br_neg (decide_eq_false (by omega))]
theorem contains_onI (l : V3 Int) (i : Int) : (V3.els l).contains i = onI l i := by
  rw [Bool.eq_iff_iff]
  unfold V3.els onI
  simp only [List.contains_cons, List.contains_nil, Bool.or_false, Bool.or_eq_true, beq_iff_eq, decide_eq_true_eq]
  constructor
  · rintro (h | h | h) <;> simp [h]
  · rintro ((h | h) | h) <;> simp [h]
def LA (h : List Card) (i : Int) : Bool × List (V3 Int) := if hand h && decide (0 ≤ i ∧ i ≤ (h.length : Int) - 1) then (true, (linesOf h).filter fun l => onI l i) else (false, [])
theorem lines_len27 {h : List Card} (hh : hand h = true) : (linesOf h).length ≤ 729 := by
  have := hand_len hh
  have h1 := linesOf_len (h := h)
  have : h.length * h.length ≤ 27 * 27 := Nat.mul_le_mul this this
  omega
theorem s_LinesAt_eq {n : Nat} (hn : BIG ≤ n) {h : List Card} (hl : h.length ≤ 1048576) (i : Int) : s_LinesAt n h i = some (LA h i) := by
  unfold s_LinesAt LA
  rw [s_l2Hand_eq hn (by omega), ob_some]
  simp only [lt_eq]
  rw [w64_id (by omega), s_l1In_eq]
  simp only [ob_some, br_some]
  cases hh : hand h with
  | false => rfl
  | true =>
    cases hd : decide (0 ≤ i ∧ i ≤ (h.length : Int) - 1) with
    | false => rfl
    | true =>
      have := hand_len hh; have h2 := lines_len27 hh
      show br false _ _ = _
      rw [br_false, s_l2Lines_eq hn (by omega) (hand_all hh), ob_some, s_l7At_eq hn (by omega), ob_some]; rfl
theorem i_LinesAt_eq {n : Nat} (hn : BIG ≤ n) {h : List Card} (hl : h.length ≤ 1048576) (i : Int) : i_LinesAt n h i = some (LA h i) := by
  unfold i_LinesAt LA
  rw [i_IsHand_eq hn (by omega), ob_some]
  simp only [lt_eq]
  rw [w64_id (by omega), i_within_eq]
  simp only [ob_some, br_some]
  cases hh : hand h with
  | false => rfl
  | true =>
    cases hd : decide (0 ≤ i ∧ i ≤ (h.length : Int) - 1) with
    | false => rfl
    | true =>
      have := hand_len hh; have h2 := lines_len27 hh
      show br false _ _ = _
      rw [br_false, i_linesIn_eq hn (by omega) (hand_all hh) (hand_nodup hh), ob_some]
      generalize linesOf h = L at h2 ⊢
      refine fx_filter (B := i_LinesAt_L1 n) L (fun k a => (i, (L.length : Int), (k : Int), a, L)) (fun l => onI l i) (fun a => some (true, a)) (fun self k a hk ha => ?_) (fun self a => ?_) n (big_gt hn (by omega))
      · simp only [i_LinesAt_L1, lt_eq]
        rw [br_pos (decide_eq_true (show (k : Int) < (L.length : Int) by omega)), ckb_pos (inb_ok hk), toNat_cast, gl_eq hk, w64_succ (by omega), slices_Contains_int_eq hn (by unfold V3.els; simp), ob_some, contains_onI]
        cases onI L[k] i with
        | true => rw [br_true, ckb_pos (apok_ok (by omega) (by omega)), if_pos rfl]
        | false => rw [br_false]; simp
      · simp only [i_LinesAt_L1]
        rw [br_neg (decide_eq_false (by omega))]

/-! counts of lines -/
def cl (N : Nat) (f : Nat → Int) : List Int := (List.range' 0 (N - 0)).map f
theorem cl_len (N : Nat) (f : Nat → Int) : (cl N f).length = N := by simp [cl]
theorem cl_get {N : Nat} {f : Nat → Int} {i : Nat} (h : i < (cl N f).length) : (cl N f)[i] = f i := by
  unfold cl; simp
theorem cl_gl {N : Nat} {f : Nat → Int} {i : Nat} (h : i < N) : gl 0 (cl N f) i = f i := by
  rw [gl_eq (by rw [cl_len]; exact h), cl_get]
theorem cl_congr {N : Nat} {f g : Nat → Int} (h : ∀ i, i < N → f i = g i) : cl N f = cl N g := by
  refine List.ext_getElem (by rw [cl_len, cl_len]) fun i h1 h2 => ?_
  rw [cl_get, cl_get]
  rw [cl_len] at h1
  exact h i h1
theorem cl_set {N : Nat} {f : Nat → Int} {i : Nat} (v : Int) : (cl N f).set i v = cl N fun k => if k = i then v else f k := by
  refine List.ext_getElem (by simp [cl_len]) fun k h1 h2 => ?_
  rw [List.getElem_set, cl_get]
  by_cases hk : i = k
  · subst hk; rw [if_pos rfl, cl_get, if_pos rfl]
  · have : ¬ k = i := fun e => hk e.symm
    rw [if_neg hk, cl_get, if_neg this]
theorem cl_zero (N : Nat) : List.replicate N (0 : Int) = cl N fun _ => 0 := by
  refine List.ext_getElem (by simp [cl_len]) fun k h1 h2 => ?_
  rw [cl_get]; simp
def LC' (h : List Card) : Bool × List Int := if hand h then (true, cl h.length fun k => (cntL h k : Int)) else (false, [])
theorem s_LineCounts_eq {n : Nat} (hn : BIG ≤ n) {h : List Card} (hl : h.length ≤ 1048576) : s_LineCounts n h = some (LC' h) := by
  unfold s_LineCounts LC'
  rw [s_l2Hand_eq hn (by omega), ob_some]
  cases hh : hand h with
  | false => rfl
  | true =>
    have := hand_len hh; have h2 := lines_len27 hh
    rw [Bool.not_true, br_false, s_l2Lines_eq hn (by omega) (hand_all hh), ob_some]
    have := fx_app (B := s_LineCounts_L1 n) h.length (fun i a => (h, (i : Int), a, linesOf h)) (fun k => [(cntL h k : Int)]) (fun a => some (true, a)) 1000000 (fun self i a hi hM => by
      simp only [List.length_singleton] at hM
      simp only [s_LineCounts_L1, lt_eq]
      rw [br_pos (decide_eq_true (show (i : Int) < (h.length : Int) by omega)), s_l7At_eq hn (by omega), ob_some, ckb_pos (apok_ok (by omega) (by omega)), w64_succ (by omega)]
      have e : (((linesOf h).filter fun l => onI l (i : Int)).length : Int) = (cntL h i : Int) := by rw [← List.countP_eq_length_filter]; rfl
      rw [e]) (fun self a => by
      simp only [s_LineCounts_L1]
      rw [br_neg (decide_eq_false (by omega))]) n 0 [] (Nat.zero_le _) (big_gt hn (by omega)) (by
        have := flen (l := List.range' 0 (h.length - 0)) (f := fun k => [(cntL h k : Int)]) (M := 1) fun _ _ => by simp
        rw [List.length_range'] at this
        simp only [List.length_nil]; omega)
    rw [List.nil_append] at this
    refine this.trans ?_
    rw [if_pos rfl]
    congr 2
    unfold cl
    have : ∀ l : List Nat, (l.flatMap fun k => [(cntL h k : Int)]) = l.map fun k => (cntL h k : Int) := fun l => by
      induction l with
      | nil => rfl
      | cons x l ih => rw [List.flatMap_cons, ih]; rfl
    exact this _
def cntT (L : List (V3 Int)) (m k : Nat) : Nat := (L.take m).countP fun x => onL x k
theorem cntT_succ {L : List (V3 Int)} {m : Nat} (hm : m < L.length) (k : Nat) : cntT L (m + 1) k = cntT L m k + b2 (onL L[m] k) := by
  unfold cntT
  rw [take_snoc hm, List.countP_append]
  congr 1
  simp [List.countP_cons, b2]
theorem cntT_le (L : List (V3 Int)) (m k : Nat) : cntT L m k ≤ L.length := by
  unfold cntT
  have := List.countP_le_length (p := fun x => onL x k) (l := L.take m)
  rw [List.length_take] at this; omega
theorem i_LineCounts_eq {n : Nat} (hn : BIG ≤ n) {h : List Card} (hl : h.length ≤ 1048576) : i_LineCounts n h = some (LC' h) := by
  unfold i_LineCounts LC'
  rw [i_IsHand_eq hn (by omega), ob_some]
  cases hh : hand h with
  | false => rfl
  | true =>
    have H := HandL.of hh
    have := hand_len hh; have h2 := lines_len27 hh
    rw [Bool.not_true, br_false, ckb_pos (mkok_ok (by omega) (by omega) (by omega) (by omega)), i_linesIn_eq hn (by omega) (hand_all hh) (hand_nodup hh), ob_some, if_pos rfl, cl_zero]
    have hmem : ∀ m (hm : m < (linesOf h).length), ∃ i j k : Nat, (linesOf h)[m] = ⟨(i : Int), (j : Int), (k : Int)⟩ ∧ LineAt h i j k := fun m hm => (mem_lines H).1 (List.getElem_mem hm)
    have e0 : (cl h.length fun _ => 0) = cl h.length fun k => (cntT (linesOf h) 0 k : Int) := cl_congr fun i _ => by simp [cntT]
    have e1 : (cl h.length fun k => (cntL h k : Int)) = cl h.length fun k => (cntT (linesOf h) (linesOf h).length k : Int) := cl_congr fun i _ => by unfold cntT cntL; rw [List.take_length]
    rw [e0, e1]
    generalize linesOf h = L at h2 hmem ⊢
    refine fx_cnt (B := i_LineCounts_L2 n) L.length (fun m => ((L.length : Int), (m : Int), cl h.length fun k => (cntT L m k : Int), L)) (fun _ => True) (fun _ => some (true, cl h.length fun k => (cntT L L.length k : Int))) (fun self m hm _ ih => ?_) n 0 (Nat.zero_le _) trivial (big_gt hn (by omega))
    simp only [i_LineCounts_L2]
    by_cases hml : m < L.length
    · rw [br_pos (decide_eq_true (show (m : Int) < (L.length : Int) by omega)), ckb_pos (inb_ok hml), toNat_cast, gl_eq hml]
      obtain ⟨i, j, k, e, A⟩ := hmem m hml
      have a1 := A.ij; have a2 := A.jk; have a3 := A.kl
      have key : ∀ p, (cntT L (m + 1) p : Int) = if p = k then (cntT L m k : Int) + 1 else if p = j then (cntT L m j : Int) + 1 else if p = i then (cntT L m i : Int) + 1 else (cntT L m p : Int) := fun p => by
        rw [cntT_succ hml, e]
        unfold b2
        by_cases p1 : p = k
        · subst p1
          rw [if_pos (onL_iff.2 (.inr (.inr rfl))), if_pos rfl]; omega
        · by_cases p2 : p = j
          · subst p2
            rw [if_pos (onL_iff.2 (.inr (.inl rfl))), if_neg p1, if_pos rfl]; omega
          · by_cases p3 : p = i
            · subst p3
              rw [if_pos (onL_iff.2 (.inl rfl)), if_neg p1, if_neg p2, if_pos rfl]; omega
            · rw [if_neg (by rw [onL_iff]; simp only []; omega), if_neg p1, if_neg p2, if_neg p3]; omega
      have b := cntT_le L m
      have bi := b i; have bj := b j; have bk := b k
      have ih' := ih hml trivial
      rw [cl_congr fun p _ => key p] at ih'
      generalize hg : self = go at ih' ⊢
      obtain ⟨q, rfl⟩ : ∃ q, n = q + 5 := ⟨n - 5, by unfold BIG at hn; omega⟩
      rw [e]
      simp only [fx_succ, i_LineCounts_L1, lt_eq]
      simp only [show (decide ((0 : Int) < 3)) = true from rfl, show inb 0 3 = true from rfl, show w64 (0 + 1) = 1 from by decide, br_true, ckb_true, List.length_set, cl_len,
        show (decide ((1 : Int) < 3)) = true from rfl, show inb 1 3 = true from rfl, show w64 (1 + 1) = 2 from by decide, show (decide ((2 : Int) < 3)) = true from rfl, show inb 2 3 = true from rfl, show w64 (2 + 1) = 3 from by decide, show (decide ((3 : Int) < 3)) = false from rfl, br_false,
        show (0 : Int).toNat = 0 from rfl, show (1 : Int).toNat = 1 from rfl, show (2 : Int).toNat = 2 from rfl, V3.get, toNat_cast, inb_ok (show i < h.length by omega), inb_ok (show j < h.length by omega), inb_ok a3]
      rw [cl_gl (by omega), cl_set, cl_gl (by omega), cl_set, cl_gl (by omega), cl_set, if_neg (by omega), if_neg (by omega), if_neg (by omega), w64_id (x := (cntT L m i : Int) + 1) (by omega), w64_id (x := (cntT L m j : Int) + 1) (by omega), w64_id (x := (cntT L m k : Int) + 1) (by omega), w64_succ (by omega)]
      exact ih'
    · have : m = L.length := by omega
      subst this
      rw [br_neg (decide_eq_false (by omega))]
end Go.Pl
namespace Go.Pl
open Go Go.Tv Go.RowKit
set_option linter.unusedVariables false

/-! open pairs, crossings -/
theorem c2'_le {n m : Nat} (h : n ≤ m) : c2' n ≤ c2' m := by
  induction m with
  | zero => have : n = 0 := by omega
            subst this; exact Nat.le_refl _
  | succ m ih =>
    by_cases hn : n = m + 1
    · subst hn; exact Nat.le_refl _
    · have := ih (by omega); rw [c2']; omega
def opn (h : List Card) : Nat := T h.length fun i k => b2 (!h.contains (third (gz h i) (gz h k)))
def OP (h : List Card) : Int × Bool := if hand h then ((opn h : Int), true) else (0, false)
theorem half_c2 {n : Nat} (h : n ≤ 1000000) : w64 (Int.tdiv (w64 ((n : Int) * w64 ((n : Int) - 1))) 2) = (c2' n : Int) := by
  have h2 := c2'_two n
  cases n with
  | zero => decide
  | succ n =>
    have hb : (n + 1) * n ≤ 1000000 * 1000000 := Nat.mul_le_mul h (by omega)
    have e1 : w64 (((n + 1 : Nat) : Int) - 1) = (n : Int) := by rw [w64_id (by omega)]; omega
    have e2 : (((n + 1 : Nat) : Int) * (n : Int)) = (((n + 1) * n : Nat) : Int) := by simp
    rw [e1, e2, w64_id (x := (((n + 1) * n : Nat) : Int)) (by omega)]
    simp only [Nat.add_sub_cancel] at h2
    have e3 : Int.tdiv (((n + 1) * n : Nat) : Int) 2 = (((n + 1) * n / 2 : Nat) : Int) := rfl
    rw [e3, w64_id (by omega)]
    omega
theorem i_OpenPairs_eq {n : Nat} (hn : BIG ≤ n) {h : List Card} (hl : h.length ≤ 1048576) : i_OpenPairs n h = some (OP h) := by
  unfold i_OpenPairs OP
  rw [i_IsHand_eq hn (by omega), ob_some]
  cases hh : hand h with
  | false => rfl
  | true =>
    have H := HandL.of hh
    have := hand_len hh; have h2 := lines_len27 hh
    have ho := open_pairs H
    have hc := c2'_le (show h.length ≤ 27 by omega)
    have hc27 : c2' 27 = 351 := by decide
    rw [Bool.not_true, br_false, i_linesIn_eq hn (by omega) (hand_all hh) (hand_nodup hh)]
    simp only [lt_eq, ob_some, if_true]
    rw [half_c2 (by omega), w64_id (x := 3 * ((linesOf h).length : Int)) (by omega), w64_id (by omega)]
    congr 2
    unfold opn; omega
theorem s_OpenPairs_eq {n : Nat} (hn : BIG ≤ n) {h : List Card} (hl : h.length ≤ 1048576) : s_OpenPairs n h = some (OP h) := by
  unfold s_OpenPairs OP
  cases hh : hand h with
  | false =>
    obtain ⟨m, rfl⟩ : ∃ m, n = m + 1 := ⟨n - 1, by unfold BIG at hn; omega⟩
    rw [fx_succ]
    simp only [s_OpenPairs_L2, s_l2Hand_eq hn (show h.length ≤ 9223372036854775807 by omega), ob_some, hh, br_some]
    have : (if decide ((0 : Int) < (h.length : Int)) = true then false else false) = false := by split <;> rfl
    rw [this]; rfl
  | true =>
    have H := HandL.of hh
    have := hand_len hh; have h2 := lines_len27 hh
    have ho := open_pairs H
    have hc := c2'_le (show h.length ≤ 27 by omega)
    have hc27 : c2' 27 = 351 := by decide
    rw [if_pos rfl]
    have hs := s_l2Hand_eq hn (h := h) (show h.length ≤ 9223372036854775807 by omega)
    rw [hh] at hs
    refine fx_tri (B := s_OpenPairs_L2 n) (C := s_OpenPairs_L1 n) h.length (fun i a => (h, a, (i : Int))) (fun i k a => (h, a, (i : Int), (k : Int))) (fun i k => b2 (!h.contains (third (gz h i) (gz h k)))) (fun a => some (a, true)) 10000 n (big_gt hn (by omega)) ?_ ?_ ?_ ?_ (by omega)
    · intro self i a hi h0 h1
      simp only [s_OpenPairs_L2, hs, ob_some, br_some]
      rw [decide_eq_true (show (i : Int) < (h.length : Int) by omega), if_pos rfl, br_true]; rfl
    · intro self self2 i k a hi hk h0 h1
      simp only [s_OpenPairs_L1, lt_eq]
      rw [br_pos (decide_eq_true (show (k : Int) < (i : Int) by omega)), ckb_pos (inb_ok hi), ckb_pos (inb_ok (by omega)), toNat_cast, toNat_cast, s_l2Third_eq hn (gl_C H.c hi) (gl_C H.c (by omega)), ob_some, s_l2Has_eq hn (by omega), ob_some, w64_succ (k := k) (by omega)]
      cases hb : h.contains (third (gz h i) (gz h k)) with
      | true =>
        rw [Bool.not_true, br_false]
        simp [b2]
      | false =>
        rw [hb] at h1
        have hb1 : (b2 (!false) : Nat) = 1 := rfl
        rw [hb1] at h1
        rw [Bool.not_false, br_true, w64_id (by omega)]; rfl
    · intro self self2 i a hi h0 h1
      simp only [s_OpenPairs_L1, lt_eq]
      rw [br_neg (decide_eq_false (by omega)), w64_succ (by omega)]
    · intro self a h0 h1
      simp only [s_OpenPairs_L2, hs, ob_some, br_some]
      rw [decide_eq_false (show ¬ (h.length : Int) < (h.length : Int) by omega)]
      rfl
def CX (h : List Card) : Int × Bool := if hand h then ((cross h : Int), true) else (0, false)
theorem comm_le3 (a b : V3 Int) : comm a b ≤ 3 := by
  unfold comm
  have := hasn_le a.x0 b; have := hasn_le a.x1 b; have := hasn_le a.x2 b
  omega
theorem T_le {n k : Nat} {g : Nat → Nat → Nat} (h : ∀ i j, g i j ≤ k) : T n g ≤ c2' n * k := by
  rw [← T_const k n]
  exact S_le fun i _ => S_le fun j _ => h i j
theorem cross_le {h : List Card} (hl : (linesOf h).length ≤ 729) : cross h ≤ 1000000 := by
  have h1 := T_le (n := (linesOf h).length) (k := 3) (g := fun i k => comm (gl ⟨0, 0, 0⟩ (linesOf h) i) (gl ⟨0, 0, 0⟩ (linesOf h) k)) fun i j => comm_le3 _ _
  have hc := c2'_two (linesOf h).length
  have hb : (linesOf h).length * ((linesOf h).length - 1) ≤ 729 * 729 := Nat.mul_le_mul hl (by omega)
  unfold cross; omega
theorem i_CountCrossings_eq {n : Nat} (hn : BIG ≤ n) {h : List Card} (hl : h.length ≤ 1048576) : i_CountCrossings n h = some (CX h) := by
  unfold i_CountCrossings CX
  rw [i_IsHand_eq hn (by omega), ob_some]
  cases hh : hand h with
  | false => rfl
  | true =>
    have := hand_len hh; have h2 := lines_len27 hh
    have hx := cross_le h2
    rw [Bool.not_true, br_false, i_linesIn_eq hn (by omega) (hand_all hh) (hand_nodup hh), ob_some, if_pos rfl]
    unfold cross at hx ⊢
    generalize linesOf h = L at h2 hx ⊢
    refine fx_tri (B := i_CountCrossings_L2 n) (C := i_CountCrossings_L1 n) L.length (fun i a => (a, (L.length : Int), (i : Int), L)) (fun i k a => (a, (L.length : Int), (i : Int), 0, (i : Int), (i : Int), (k : Int), L, gl ⟨0, 0, 0⟩ L i)) (fun i k => comm (gl ⟨0, 0, 0⟩ L i) (gl ⟨0, 0, 0⟩ L k)) (fun a => some (a, true)) 1000000 n (big_gt hn (by omega)) ?_ ?_ ?_ ?_ (by omega)
    · intro self i a hi h0 h1
      simp only [i_CountCrossings_L2]
      rw [br_pos (decide_eq_true (show (i : Int) < (L.length : Int) by omega)), ckb_pos (inb_ok hi), ckb_pos (slb_ok (by omega) (by omega) (by omega)), toNat_cast, w64_id (x := (i : Int) - 0) (by omega)]
      have : ((((i : Int) - 0).toNat : Nat) : Int) = (i : Int) := by omega
      rw [this]; rfl
    · intro self self2 i k a hi hk h0 h1
      simp only [i_CountCrossings_L1, lt_eq]
      have hi' : cand (inb (k : Int) (i : Int).toNat) (nlt ((0 : Int).toNat + (k : Int).toNat) L.length) = true := by
        rw [toNat_cast, inb_ok hk]
        exact decide_eq_true (by show 0 + (k : Int).toNat < L.length; rw [toNat_cast]; omega)
      rw [br_pos (decide_eq_true (show (k : Int) < (i : Int) by omega)), ckb_pos hi', i_common_eq hn, ob_some]
      have e0 : (0 : Int).toNat + (k : Int).toNat = k := by rw [toNat_cast]; exact Nat.zero_add k
      rw [e0, w64_succ (k := k) (by omega)]
      have := comm_le3 (gl ⟨0, 0, 0⟩ L i) (gl ⟨0, 0, 0⟩ L k)
      unfold comm at h1 this ⊢
      rw [w64_id (by omega)]; rfl
    · intro self self2 i a hi h0 h1
      simp only [i_CountCrossings_L1, lt_eq]
      rw [br_neg (decide_eq_false (by omega)), w64_succ (by omega)]
    · intro self a h0 h1
      simp only [i_CountCrossings_L2]
      rw [br_neg (decide_eq_false (by omega))]
theorem s_CountCrossings_eq {n : Nat} (hn : BIG ≤ n) {h : List Card} (hl : h.length ≤ 1048576) : s_CountCrossings n h = some (CX h) := by
  unfold s_CountCrossings CX
  rw [s_l2Hand_eq hn (by omega), ob_some]
  cases hh : hand h with
  | false => rfl
  | true =>
    have H := HandL.of hh
    have := hand_len hh; have h2 := lines_len27 hh
    have hx := cross_le h2
    have hc1 := cross_one H
    rw [Bool.not_true, br_false, s_l2Lines_eq hn (by omega) (hand_all hh), ob_some, if_pos rfl, ← hc1]
    rw [← hc1] at hx
    clear hc1
    generalize linesOf h = L at h2 hx ⊢
    refine fx_tri (B := s_CountCrossings_L2 n) (C := s_CountCrossings_L1 n) L.length (fun i a => (a, (i : Int), L)) (fun i k a => (a, (i : Int), (k : Int), L)) (fun i k => b2 (decide (common (gl ⟨0, 0, 0⟩ L i) (gl ⟨0, 0, 0⟩ L k) = 1))) (fun a => some (a, true)) 1000000 n (big_gt hn (by omega)) ?_ ?_ ?_ ?_ (by omega)
    · intro self i a hi h0 h1
      simp only [s_CountCrossings_L2]
      rw [br_pos (decide_eq_true (show (i : Int) < (L.length : Int) by omega))]; rfl
    · intro self self2 i k a hi hk h0 h1
      simp only [s_CountCrossings_L1, lt_eq]
      rw [br_pos (decide_eq_true (show (k : Int) < (i : Int) by omega)), ckb_pos (inb_ok hi), ckb_pos (inb_ok (by omega)), toNat_cast, toNat_cast, s_l7Common_eq hn, ob_some, w64_succ (k := k) (by omega)]
      by_cases hc : common (gl ⟨0, 0, 0⟩ L i) (gl ⟨0, 0, 0⟩ L k) = 1
      · rw [hc] at h1 ⊢
        have hb1 : (b2 (decide ((1 : Nat) = 1)) : Nat) = 1 := rfl
        rw [hb1] at h1 ⊢
        rw [br_pos (decide_eq_true (show ((1 : Nat) : Int) = 1 from rfl)), w64_id (by omega)]; rfl
      · rw [br_neg (decide_eq_false (by omega)), decide_eq_false hc]
        simp [b2]
    · intro self self2 i a hi h0 h1
      simp only [s_CountCrossings_L1, lt_eq]
      rw [br_neg (decide_eq_false (by omega)), w64_succ (by omega)]
    · intro self a h0 h1
      simp only [s_CountCrossings_L2]
      rw [br_neg (decide_eq_false (by omega))]
end Go.Pl

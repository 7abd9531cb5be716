/- Plain laws: LFr, LWo, LC, LRs, LSo2. -/
import Derived.Test.YtfoielhhflbbfaaG1
import Derived.KernelRfl
import Derived.Test.YtfoielhhflbbfaaG0
import Derived.Test.YtfoielhhflbbfaaG2
set_option linter.unusedVariables false
set_option linter.unusedSimpArgs false
namespace Go.Pl
open Go Go.Tv Go.RowKit
set_option linter.unusedVariables false
end Go.Pl
namespace Go.Pl
open Go Go.Tv Go.RowKit
set_option linter.unusedVariables false
def wo (h : List Card) (c : Card) : List Card := h.filter fun x => !decide (x = c)
theorem sub_clr {α : Type} (z : α) {e : List α} {i : Nat} (hi : i ≤ e.length) : sub (clr z e i (e.length - i)) 0 i = e.take i := by
  unfold sub clr
  rw [Nat.sub_zero, List.drop_zero, List.append_assoc, List.take_append_of_le_length (by simp; omega), List.take_take, Nat.min_self]
theorem clr_len {α : Type} (z : α) {e : List α} {i : Nat} (hi : i ≤ e.length) : (clr z e i (e.length - i)).length = e.length := by unfold clr; simp; omega
theorem delete_ok {n : Nat} (hn : BIG ≤ n) {h : List Card} (hl : h.length ≤ 1000000) (c : Card) : slices_DeleteFunc_SA4_A4_'o_i_without_1p n h c = some (c, wo h c) := by
  unfold slices_DeleteFunc_SA4_A4_'o_i_without_1p slices_IndexFunc_SA4_A4_'l_i_without_1p
  have := fx_find (B := slices_IndexFunc_SA4_A4_'l_i_without_1p_L1 n) h (fun i => (h, (h.length : Int), (i : Int), c)) (fun x => decide (x = c)) (fun i => some ((i : Int), c)) (some ((-1), c)) (fun self i hi => ?_) (fun self => ?_) n (big_gt hn (by omega))
  · have e : ((0 : Nat) : Int) = 0 := rfl
    simp only [e] at this
    rw [this]
    cases hf : h.findIdx? (fun x => decide (x = c)) with
    | none =>
      simp only [ob_some]
      simp only [decide_true, br_true]
      congr 2
      unfold wo
      symm
      refine List.filter_eq_self.2 fun x hx => ?_
      have := List.findIdx?_eq_none_iff.1 hf x hx
      simp only [decide_eq_false_iff_not] at this
      simp [this]
    | some i =>
      obtain ⟨h1, h2, h3⟩ := List.findIdx?_eq_some_iff_getElem.1 hf
      simp only [ob_some, lt_eq]
      rw [br_neg (decide_eq_false (by omega)), w64_succ (by omega)]
      refine fx_inv (B := slices_DeleteFunc_SA4_A4_'o_i_without_1p_L1 n) (fun s => ∃ (i j : Nat) (e : List Card), s = ((i : Int), (j : Int), e, c) ∧ i < j ∧ j ≤ h.length ∧ e.length = h.length ∧ e.take i = wo (h.take j) c ∧ ∀ q, j ≤ q → gl (⟨0, 0, 0, 0⟩ : Card) e q = gl (⟨0, 0, 0, 0⟩ : Card) h q)
        (fun s => 2000000 - s.2.1.toNat) (fun o => o = some (c, wo h c)) ?_ n _ ⟨i, i + 1, h, rfl, by omega, by omega, rfl, ?_, fun q _ => rfl⟩ (big_gt hn (by simp only []; omega))
      · rintro self _ ⟨i, j, e, rfl, hij, hj, hle, ht, hr⟩ ih
        simp only [slices_DeleteFunc_SA4_A4_'o_i_without_1p_L1, i_without_1'p, ob_some, lt_eq]
        by_cases hlt : j < h.length
        · rw [br_pos (decide_eq_true (show (j : Int) < (e.length : Int) by omega)), ckb_pos (inb_ok (by omega)), toNat_cast, hr j (Nat.le_refl _), w64_succ (k := j) (by omega), gl_eq hlt]
          have hw : wo (h.take (j + 1)) c = wo (h.take j) c ++ wo [h[j]] c := by rw [take_snoc hlt]; unfold wo; rw [List.filter_append]
          by_cases hc : h[j] = c
          · rw [br_neg (show (!eqd h[j] c) = false by unfold eqd; rw [decide_eq_true hc]; rfl)]
            refine ih _ ⟨i, j + 1, e, rfl, by omega, by omega, hle, ?_, fun q hq => hr q (by omega)⟩ (by simp only []; omega)
            rw [hw, ht]
            simp [wo, hc]
          · rw [br_pos (show (!eqd h[j] c) = true by unfold eqd; rw [decide_eq_false hc]; rfl), ckb_pos (inb_ok (by omega)), w64_succ (by omega)]
            refine ih _ ⟨i + 1, j + 1, e.set i h[j], rfl, by omega, by omega, by rw [List.length_set]; exact hle, ?_, fun q hq => ?_⟩ (by simp only []; omega)
            · rw [hw, ← ht]
              rw [take_snoc (show i < (e.set i h[j]).length by rw [List.length_set]; omega), List.getElem_set_self, List.take_set_of_le (by omega)]
              simp [wo, hc]
            · rw [gl_set _ _ _ _ (by omega), if_neg (by omega)]; exact hr q (by omega)
        · have : j = h.length := by omega
          subst this
          rw [br_neg (decide_eq_false (by omega)), ckb_pos (slb_ok (by omega) (by omega) (by omega)), w64_id (x := (e.length : Int) - (i : Int)) (by omega)]
          have e1 : ((e.length : Int) - (i : Int)).toNat = e.length - i := by omega
          rw [e1, toNat_cast, ckb_pos (slb_ok (by omega) (by omega) (by rw [clr_len _ (by omega)]; omega)), w64_id (x := (i : Int) - 0) (by omega)]
          have e2 : ((i : Int) - 0).toNat = i := by omega
          rw [e2, sub_clr _ (by omega), ht, List.take_length]
      · rw [take_snoc h1]
        unfold wo
        rw [List.filter_append]
        have h2' := of_decide_eq_true h2
        have : List.filter (fun x => !decide (x = c)) (h.take i) = h.take i := by
          refine List.filter_eq_self.2 fun x hx => ?_
          obtain ⟨k, hk, rfl⟩ := List.getElem_of_mem hx
          rw [List.length_take] at hk
          have := h3 k (by omega)
          rw [List.getElem_take]
          simp only [decide_eq_true_eq] at this
          simp [this]
        rw [this]
        simp [h2']
  · have e1 : decide ((i : Int) < (h.length : Int)) = true := decide_eq_true (by omega)
    simp only [slices_IndexFunc_SA4_A4_'l_i_without_1p_L1, e1, br_true, i_without_1'p, ob_some, lt_eq]
    rw [ckb_pos (inb_ok hi), toNat_cast, gl_eq hi, w64_succ (by omega)]
    unfold eqd
    by_cases hc : h[i] = c <;> simp [hc]
  · have e1 : decide ((h.length : Int) < (h.length : Int)) = false := decide_eq_false (by omega)
    simp only [slices_IndexFunc_SA4_A4_'l_i_without_1p_L1, e1, br_false]
theorem i_without_eq {n : Nat} (hn : BIG ≤ n) {h : List Card} (hl : h.length ≤ 1000000) (c : Card) : i_without n h c = some (wo h c) := by
  unfold i_without
  rw [slices_Clone_SA4_A4__eq (by omega), ob_some, delete_ok hn hl, ob_some]
end Go.Pl
namespace Go.Pl
open Go Go.Tv Go.RowKit
set_option linter.unusedVariables false
set_option linter.unusedSimpArgs false
theorem areCards_3 {n : Nat} (hn : BIG ≤ n) (a b c : Card) : i_areCards n [a, b, c] = some (isC a && (isC b && isC c)) := by
  have e : ∀ x, i_areCards_1 n x = some (! isC x) := fun x => by unfold i_areCards_1; rw [i_IsCard_eq hn]; rfl
  obtain ⟨m, rfl⟩ : ∃ m, n = m + 5 := ⟨n - 5, by unfold BIG at hn; omega⟩
  unfold i_areCards slices_ContainsFunc_SA4_A4_'l_i_areCards_1 slices_IndexFunc_SA4_A4_'l_i_areCards_1
  simp only [fx_succ, slices_IndexFunc_SA4_A4_'l_i_areCards_1_L1]
  simp only [e, ob_some, inb, gl]
  cases h0 : isC a <;> cases h1 : isC b <;> cases h2 : isC c <;> simp [h0, h1, h2]
def d1 (x y : Int) : Int := if x = y then 0 else 1
def dif (a b : Card) : Int := d1 a.x0 b.x0 + d1 a.x1 b.x1 + d1 a.x2 b.x2 + d1 a.x3 b.x3
theorem d1_bd (x y : Int) : 0 ≤ d1 x y ∧ d1 x y ≤ 1 := by unfold d1; split <;> omega
theorem differ_step (n : Nat) (go : Int × Int × Card × Card → Option Int) (k i : Int) (a b : Card) (hi : 0 ≤ i ∧ i ≤ 3) (hk : 0 ≤ k ∧ k ≤ 100) :
    s_l2Differ_L1 n go (k, i, a, b) = go (k + d1 (V4.get a i.toNat) (V4.get b i.toNat), i + 1, a, b) := by
  unfold s_l2Differ_L1
  have e : inb i 4 = true := inb_pos hi.1 (by omega)
  have e2 : decide (i < 4) = true := decide_eq_true (by omega)
  simp only [lt_eq]
  rw [e2, br_true, e, ckb_true, ckb_true, w64_id (x := i + 1) (by omega), w64_id (x := k + 1) (by omega)]
  unfold d1
  by_cases h : V4.get a i.toNat = V4.get b i.toNat
  · rw [if_pos h]; simp [h]
  · rw [if_neg h]; simp [h]
theorem s_l2Differ_eq {n : Nat} (hn : BIG ≤ n) (a b : Card) : s_l2Differ n a b = some (dif a b) := by
  obtain ⟨m, rfl⟩ : ∃ m, n = m + 5 := ⟨n - 5, by unfold BIG at hn; omega⟩
  unfold s_l2Differ dif
  have h0 := d1_bd a.x0 b.x0; have h1 := d1_bd a.x1 b.x1; have h2 := d1_bd a.x2 b.x2
  rw [fx_succ, differ_step _ _ _ _ _ _ (by omega) (by omega)]
  show fx _ (m + 4) (0 + d1 a.x0 b.x0, 0 + 1, a, b) = _
  rw [fx_succ, differ_step _ _ _ _ _ _ (by omega) (by omega)]
  show fx _ (m + 3) (0 + d1 a.x0 b.x0 + d1 a.x1 b.x1, 0 + 1 + 1, a, b) = _
  rw [fx_succ, differ_step _ _ _ _ _ _ (by omega) (by omega)]
  show fx _ (m + 2) (0 + d1 a.x0 b.x0 + d1 a.x1 b.x1 + d1 a.x2 b.x2, 0 + 1 + 1 + 1, a, b) = _
  rw [fx_succ, differ_step _ _ _ _ _ _ (by omega) (by omega)]
  show fx _ (m + 1) (0 + d1 a.x0 b.x0 + d1 a.x1 b.x1 + d1 a.x2 b.x2 + d1 a.x3 b.x3, 0 + 1 + 1 + 1 + 1, a, b) = _
  rw [fx_succ]
  show some (0 + d1 a.x0 b.x0 + d1 a.x1 b.x1 + d1 a.x2 b.x2 + d1 a.x3 b.x3) = _
  rw [Int.zero_add]
theorem i_differ_eq {n : Nat} (hn : BIG ≤ n) (a b : Card) : i_differ n a b = some (dif a b) := by rw [← s_l2Differ_eq hn]; rfl
theorem dif_pos (a b : Card) : decide (0 < dif a b) = !decide (a = b) := by
  cases a with | _ a0 a1 a2 a3 =>
  cases b with | _ b0 b1 b2 b3 =>
  unfold dif d1
  simp only [V4.mk.injEq]
  by_cases h0 : a0 = b0 <;> by_cases h1 : a1 = b1 <;> by_cases h2 : a2 = b2 <;> by_cases h3 : a3 = b3 <;> simp [h0, h1, h2, h3]
def I3 (a b c : Card) : Bool × Bool := if (isC a && (isC b && isC c)) = true then (lineB a b c, true) else (false, false)
theorem i_IsLine_eq {n : Nat} (hn : BIG ≤ n) (a b c : Card) : i_IsLine n a b c = some (I3 a b c) := by
  unfold i_IsLine I3
  rw [areCards_3 hn]
  cases ha : isC a <;> cases hb : isC b <;> cases hc : isC c <;> simp
  rw [i_isLine_eq hn c ha hb]; rfl
end Go.Pl
namespace Go.Pl
open Go Go.Tv Go.RowKit
set_option linter.unusedVariables false
def rs1 (h : List Card) (k : Nat) : List Card := if h.contains (cardAt k) = true then [] else [cardAt k]
def restK (h : List Card) (k : Nat) : List Card := (List.range' 0 (k - 0)).flatMap (rs1 h)
def totK (h : List Card) (k : Nat) : Nat := ((restK h k).map (thr h)).sum
def tot (h : List Card) : Nat := totK h 81
end Go.Pl
namespace Go.Pl
open Go Go.Tv Go.RowKit
set_option linter.unusedVariables false
end Go.Pl

/- Plain laws: LC. -/
import Derived.Test.YtklhncjpkkfjmaaLLD2
import Derived.Test.YtklhncjpkkfjmaaLL81
import Derived.KernelRfl
set_option linter.unusedVariables false
set_option linter.unusedSimpArgs false
namespace Go.Pl
open Go Go.Tv Go.RowKit
set_option linter.unusedVariables false
set_option linter.unusedSimpArgs false

/-! what the functions on cards tell -/
theorem areCards_3 {n : Nat} (hn : BIG ≤ n) (a b c : Card) : i_areCards n [a, b, c] = some (isC a && (isC b && isC c)) := by
  have e : ∀ x, i_areCards_1 n x = some (! isC x) := fun x => by unfold i_areCards_1; rw [i_IsCard_eq hn]; rfl
  obtain ⟨m, rfl⟩ : ∃ m, n = m + 5 := ⟨n - 5, by unfold BIG at hn; omega⟩
  unfold i_areCards slices_ContainsFunc_SA4_A4_'l_i_areCards_1 slices_IndexFunc_SA4_A4_'l_i_areCards_1
  simp only [fx_succ, slices_IndexFunc_SA4_A4_'l_i_areCards_1_L1]
  simp only [e, ob_some, inb, gl]
  cases h0 : isC a <;> cases h1 : isC b <;> cases h2 : isC c <;> simp [h0, h1, h2]
theorem areCards_2 {n : Nat} (hn : BIG ≤ n) (a b : Card) : i_areCards n [a, b] = some (isC a && isC b) := by
  have e : ∀ x, i_areCards_1 n x = some (! isC x) := fun x => by unfold i_areCards_1; rw [i_IsCard_eq hn]; rfl
  obtain ⟨m, rfl⟩ : ∃ m, n = m + 5 := ⟨n - 5, by unfold BIG at hn; omega⟩
  unfold i_areCards slices_ContainsFunc_SA4_A4_'l_i_areCards_1 slices_IndexFunc_SA4_A4_'l_i_areCards_1
  simp only [fx_succ, slices_IndexFunc_SA4_A4_'l_i_areCards_1_L1]
  simp only [e, ob_some, inb, gl]
  cases h0 : isC a <;> cases h1 : isC b <;> simp [h0, h1]

def d1 (x y : Int) : Int := if x = y then 0 else 1
def dif (a b : Card) : Int := d1 a.x0 b.x0 + d1 a.x1 b.x1 + d1 a.x2 b.x2 + d1 a.x3 b.x3
theorem d1_bd (x y : Int) : 0 ≤ d1 x y ∧ d1 x y ≤ 1 := by unfold d1; split <;> omega
theorem differ_step (n : Nat) (go : Int × Int × Card × Card → Option Int) (k i : Int) (a b : Card) (hi : 0 ≤ i ∧ i ≤ 3) (hk : 0 ≤ k ∧ k ≤ 100) :
    s_l2Differ_L1 n go (k, i, a, b) = go (k + d1 (V4.get a i.toNat) (V4.get b i.toNat), i + 1, a, b) := by
  unfold s_l2Differ_L1
  have e : inb i 4 = true := inb_pos hi.1 (by omega)
  have e2 : decide (i < 4) = true := decide_eq_true (by omega)
  simp only [lt_eq]
  rw [e2, br_true, e, ckb_true, ckb_true, w64_id (x := i + 1) (by omega), w64_id (x := k + 1) (by omega)]
  unfold d1
  by_cases h : V4.get a i.toNat = V4.get b i.toNat
  · rw [if_pos h]; simp [h]
  · rw [if_neg h]; simp [h]
theorem s_l2Differ_eq {n : Nat} (hn : BIG ≤ n) (a b : Card) : s_l2Differ n a b = some (dif a b) := by
  obtain ⟨m, rfl⟩ : ∃ m, n = m + 5 := ⟨n - 5, by unfold BIG at hn; omega⟩
  unfold s_l2Differ dif
  have h0 := d1_bd a.x0 b.x0; have h1 := d1_bd a.x1 b.x1; have h2 := d1_bd a.x2 b.x2
  rw [fx_succ, differ_step _ _ _ _ _ _ (by omega) (by omega)]
  show fx _ (m + 4) (0 + d1 a.x0 b.x0, 0 + 1, a, b) = _
  rw [fx_succ, differ_step _ _ _ _ _ _ (by omega) (by omega)]
  show fx _ (m + 3) (0 + d1 a.x0 b.x0 + d1 a.x1 b.x1, 0 + 1 + 1, a, b) = _
  rw [fx_succ, differ_step _ _ _ _ _ _ (by omega) (by omega)]
  show fx _ (m + 2) (0 + d1 a.x0 b.x0 + d1 a.x1 b.x1 + d1 a.x2 b.x2, 0 + 1 + 1 + 1, a, b) = _
  rw [fx_succ, differ_step _ _ _ _ _ _ (by omega) (by omega)]
  show fx _ (m + 1) (0 + d1 a.x0 b.x0 + d1 a.x1 b.x1 + d1 a.x2 b.x2 + d1 a.x3 b.x3, 0 + 1 + 1 + 1 + 1, a, b) = _
  rw [fx_succ]
  show some (0 + d1 a.x0 b.x0 + d1 a.x1 b.x1 + d1 a.x2 b.x2 + d1 a.x3 b.x3) = _
  rw [Int.zero_add]
theorem i_differ_eq {n : Nat} (hn : BIG ≤ n) (a b : Card) : i_differ n a b = some (dif a b) := by rw [← s_l2Differ_eq hn]; rfl
theorem dif_pos (a b : Card) : decide (0 < dif a b) = !decide (a = b) := by
  cases a with | _ a0 a1 a2 a3 =>
  cases b with | _ b0 b1 b2 b3 =>
  unfold dif d1
  simp only [V4.mk.injEq]
  by_cases h0 : a0 = b0 <;> by_cases h1 : a1 = b1 <;> by_cases h2 : a2 = b2 <;> by_cases h3 : a3 = b3 <;> simp [h0, h1, h2, h3]

/-- ThirdCard -/
def T3 (a b : Card) : Card × Bool := if (isC a && isC b && !decide (a = b)) = true then (third a b, true) else (⟨0, 0, 0, 0⟩, false)
theorem s_ThirdCard_eq {n : Nat} (hn : BIG ≤ n) (a b : Card) : s_ThirdCard n a b = some (T3 a b) := by
  unfold s_ThirdCard T3
  rw [s_l2Card_eq hn, s_l2Card_eq hn]
  cases ha : isC a <;> cases hb : isC b <;> by_cases h : a = b <;> simp [eqd, h, br_some]
  all_goals first | rfl | skip
  all_goals rw [s_l2Third_eq hn (by simp_all) (by simp_all)]; rfl
theorem i_ThirdCard_eq {n : Nat} (hn : BIG ≤ n) (a b : Card) : i_ThirdCard n a b = some (T3 a b) := by
  unfold i_ThirdCard T3
  rw [i_IsCard_eq hn, i_IsCard_eq hn]
  cases ha : isC a <;> cases hb : isC b <;> by_cases h : a = b <;> simp [eqd, h, br_some]
  all_goals first | rfl | skip
  all_goals rw [i_third_eq hn (by simp_all) (by simp_all)]; rfl
/-- IsLine -/
def I3 (a b c : Card) : Bool × Bool := if (isC a && (isC b && isC c)) = true then (lineB a b c, true) else (false, false)
theorem i_IsLine_eq {n : Nat} (hn : BIG ≤ n) (a b c : Card) : i_IsLine n a b c = some (I3 a b c) := by
  unfold i_IsLine I3
  rw [areCards_3 hn]
  cases ha : isC a <;> cases hb : isC b <;> cases hc : isC c <;> simp
  rw [i_isLine_eq hn c ha hb]; rfl
theorem s_IsLine_eq {n : Nat} (hn : BIG ≤ n) (a b c : Card) : s_IsLine n a b c = some (I3 a b c) := by
  unfold s_IsLine I3
  rw [s_l2Card_eq hn, s_l2Card_eq hn, s_l2Card_eq hn]
  cases ha : isC a <;> cases hb : isC b <;> cases hc : isC c <;> simp
  rw [s_l2Line_eq hn c ha hb]; rfl
/-- LineKind -/
def K3 (a b c : Card) : Int × Bool := if (isC a && (isC b && isC c) && lineB a b c) = true then (dif a b, true) else (0, false)
theorem i_LineKind_eq {n : Nat} (hn : BIG ≤ n) (a b c : Card) : i_LineKind n a b c = some (K3 a b c) := by
  unfold i_LineKind K3
  rw [areCards_3 hn, i_differ_eq hn]
  cases ha : isC a <;> cases hb : isC b <;> cases hc : isC c <;> simp
  rw [i_isLine_eq hn c ha hb]
  cases lineB a b c <;> rfl
theorem s_LineKind_eq {n : Nat} (hn : BIG ≤ n) (a b c : Card) : s_LineKind n a b c = some (K3 a b c) := by
  unfold s_LineKind K3
  rw [s_l2Card_eq hn, s_l2Card_eq hn, s_l2Card_eq hn, s_l2Differ_eq hn]
  cases ha : isC a <;> cases hb : isC b <;> cases hc : isC c <;> simp
  rw [s_l2Line_eq hn c ha hb]
  cases lineB a b c <;> rfl
def D2 (a b : Card) : Int × Bool := if (isC a && isC b) = true then (dif a b, true) else (0, false)
theorem i_DifferIn_eq {n : Nat} (hn : BIG ≤ n) (a b : Card) : i_DifferIn n a b = some (D2 a b) := by
  unfold i_DifferIn D2
  rw [areCards_2 hn, i_differ_eq hn]
  cases ha : isC a <;> cases hb : isC b <;> simp
theorem s_DifferIn_eq {n : Nat} (hn : BIG ≤ n) (a b : Card) : s_DifferIn n a b = some (D2 a b) := by
  unfold s_DifferIn D2
  rw [s_l2Card_eq hn, s_l2Card_eq hn, s_l2Differ_eq hn]
  cases ha : isC a <;> cases hb : isC b <;> simp
def N1 (a : Card) : Int × Bool := if isC a = true then (num a, true) else (0, false)
theorem i_CardNumber_eq {n : Nat} (hn : BIG ≤ n) (a : Card) : i_CardNumber n a = some (N1 a) := by
  unfold i_CardNumber N1
  rw [i_IsCard_eq hn]
  cases ha : isC a <;> simp
  rw [i_number_eq hn ha]; rfl
theorem s_CardNumber_eq {n : Nat} (hn : BIG ≤ n) (a : Card) : s_CardNumber n a = some (N1 a) := by
  unfold s_CardNumber N1
  rw [s_l2Card_eq hn]
  cases ha : isC a <;> simp
  rw [s_l2Number_eq ha]; rfl
def A1 (k : Int) : Card × Bool := if 0 ≤ k ∧ k ≤ 80 then (cardAt k, true) else (⟨0, 0, 0, 0⟩, false)
theorem i_CardAt_eq (n : Nat) (k : Int) : i_CardAt n k = some (A1 k) := by
  unfold i_CardAt A1
  rw [i_within_eq]
  by_cases h : 0 ≤ k ∧ k ≤ 80
  · rw [i_card_eq n h]; simp [h]
  · simp [h]
theorem s_CardAt_eq (n : Nat) (k : Int) : s_CardAt n k = some (A1 k) := by
  unfold s_CardAt A1
  rw [s_l1In_eq]
  by_cases h : 0 ≤ k ∧ k ≤ 80
  · rw [s_l2At_eq n h]; simp [h]
  · simp [h]
/-- texts of cards: all 81 -/
def bsq : Option ByteArray → Option ByteArray → Bool
  | some a, some b => decide (a.data.toList = b.data.toList) && Nat.beq a.data.toList.length 4
  | _, _ => false
theorem text_run (m : Nat) : (cards81.all fun c => bsq (i_cardText (m + 64) c) (s_l2Text (m + 64) c)) = true := by kernel_rfl
theorem bsq_eq {a b : Option ByteArray} (h : bsq a b = true) : ∃ x, a = some x ∧ b = some x ∧ x.size = 4 := by
  cases a with
  | none => cases h
  | some a =>
    cases b with
    | none => cases h
    | some b =>
      have h : (decide (a.data.toList = b.data.toList) && Nat.beq a.data.toList.length 4) = true := h
      rw [Bool.and_eq_true] at h
      have e : a.data.toList = b.data.toList := of_decide_eq_true h.1
      refine ⟨a, rfl, ?_, ?_⟩
      · cases a with | _ a => cases b with | _ b =>
        have : a = b := Array.toList_inj.1 e
        rw [this]
      · have := Nat.eq_of_beq_eq_true h.2
        exact this
theorem text_ok {n : Nat} (hn : BIG ≤ n) {c : Card} (hc : isC c = true) : ∃ x, i_cardText n c = some x ∧ s_l2Text n c = some x ∧ x.size = 4 := by
  obtain ⟨m, rfl⟩ : ∃ m, n = m + 64 := ⟨n - 64, by unfold BIG at hn; omega⟩
  exact bsq_eq (List.all_eq_true.1 (text_run m) c (mem_cards81 hc))
end Go.Pl

/- Plain laws: LFr, LWo, LC, LRs, LSo2. -/
import Derived.Test.YtklhncjpkkfjmaaG1
import Derived.KernelRfl
import Derived.Test.YtklhncjpkkfjmaaG0
import Derived.Test.YtklhncjpkkfjmaaG2
set_option linter.unusedVariables false
set_option linter.unusedSimpArgs false
namespace Go.Pl
open Go Go.Tv Go.RowKit
set_option linter.unusedVariables false

/-! choices and fractions -/
def chof (n k : Nat) : Nat := (List.range k).foldl (fun out i => out * (n - i) / (i + 1)) 1
noncomputable def chkCho (m : Nat) : Bool := (List.range 82).all fun n => (List.range (if n < 28 then 16 else 5)).all fun k => decide (s_l9Choose (m + 20) (n : Int) (k : Int) = some (chof n k : Int)) && decide (i_choose (m + 20) (n : Int) (k : Int) = some (chof n k : Int)) && decide (chof n k ≤ 1000000000000)
theorem chkCho_ok (m : Nat) : chkCho m = true := by kernel_rfl
theorem choose_eq {n : Nat} (hn : BIG ≤ n) {a k : Nat} (ha : a ≤ 81) (hk : k ≤ 4 ∨ a ≤ 27 ∧ k ≤ 15) : s_l9Choose n (a : Int) (k : Int) = some (chof a k : Int) ∧ i_choose n (a : Int) (k : Int) = some (chof a k : Int) ∧ chof a k ≤ 1000000000000 := by
  obtain ⟨m, rfl⟩ : ∃ m, n = m + 20 := ⟨n - 20, by unfold BIG at hn; omega⟩
  have := List.all_eq_true.1 (List.all_eq_true.1 (chkCho_ok m) a (List.mem_range.2 (by omega))) k (List.mem_range.2 (by split <;> omega))
  rw [Bool.and_eq_true, Bool.and_eq_true] at this
  exact ⟨of_decide_eq_true this.1.1, of_decide_eq_true this.1.2, of_decide_eq_true this.2⟩
def chk2c : Bool := (List.range 82).all fun n => decide (chof n 2 = c2' n) && decide (6 * chof n 3 = n * (n - 1) * (n - 2))
theorem chk2c_ok : chk2c = true := by kernel_rfl
theorem chof2 {n : Nat} (h : n ≤ 81) : chof n 2 = c2' n := by
  have := List.all_eq_true.1 chk2c_ok n (List.mem_range.2 (by omega))
  rw [Bool.and_eq_true] at this
  exact of_decide_eq_true this.1
theorem chof3 {n : Nat} (h : n ≤ 81) : 6 * chof n 3 = n * (n - 1) * (n - 2) := by
  have := List.all_eq_true.1 chk2c_ok n (List.mem_range.2 (by omega))
  rw [Bool.and_eq_true] at this
  exact of_decide_eq_true this.2
/-- a fraction without a common divisor -/
def FR (n d : Nat) : V2 Int := ⟨((n / Nat.gcd n d : Nat) : Int), ((d / Nat.gcd n d : Nat) : Int)⟩
theorem gcd_step (a b : Nat) : Nat.gcd b (a % b) = Nat.gcd a b := by rw [Nat.gcd_comm b, ← Nat.gcd_rec, Nat.gcd_comm]
theorem i_fraction_eq {n : Nat} (hn : BIG ≤ n) {a b : Nat} (hb : 0 < b) (ha1 : a ≤ 4611686018427387904) (hb1 : b ≤ 4611686018427387904) : i_fraction n (a : Int) (b : Int) = some (FR a b, true) := by
  unfold i_fraction
  have hg : 0 < Nat.gcd a b := Nat.gcd_pos_of_pos_right _ hb
  have hga : Nat.gcd a b ≤ b := Nat.gcd_le_right _ hb
  refine fx_inv (B := i_fraction_L1 n) (fun s => ∃ x y : Nat, s = ((a : Int), (b : Int), (x : Int), (y : Int), ⟨0, 0⟩) ∧ Nat.gcd x y = Nat.gcd a b) (fun s => s.2.2.2.1.toNat) (fun o => o = some (FR a b, true)) ?_ n _ ⟨a, b, rfl, rfl⟩ (big_gt hn (by simp only []; omega))
  rintro self _ ⟨x, y, rfl, hxy⟩ ih
  simp only [i_fraction_L1, lt_eq]
  by_cases hy : y = 0
  · subst hy
    rw [Nat.gcd_zero_right] at hxy
    subst hxy
    rw [br_neg (by simp), ckb_pos (by simp; omega), ckb_pos (by simp; omega)]
    have e1 : ∀ z : Nat, Int.tdiv (z : Int) ((Nat.gcd a b : Nat) : Int) = ((z / Nat.gcd a b : Nat) : Int) := fun z => rfl
    have d1 := Nat.div_le_self a (Nat.gcd a b)
    have d2 := Nat.div_le_self b (Nat.gcd a b)
    unfold FR
    rw [e1, e1]
    generalize a / Nat.gcd a b = u at d1 ⊢
    generalize b / Nat.gcd a b = v at d2 ⊢
    rw [w64_id (by omega), w64_id (by omega)]
  · rw [br_pos (by simp; omega), ckb_pos (by simp; omega)]
    have e1 : Int.tmod (x : Int) (y : Int) = ((x % y : Nat) : Int) := rfl
    rw [e1]
    have := Nat.mod_lt x (show 0 < y by omega)
    exact ih _ ⟨y, x % y, rfl, by rw [gcd_step]; exact hxy⟩ (by simp only []; omega)
theorem s_l9Cut_eq {n : Nat} (hn : BIG ≤ n) {a b : Nat} (hb : 0 < b) (ha1 : a ≤ 4611686018427387904) (hb1 : b ≤ 4611686018427387904) : s_l9Cut n (a : Int) (b : Int) = some (FR a b) := by
  unfold s_l9Cut
  have hg : 0 < Nat.gcd a b := Nat.gcd_pos_of_pos_right _ hb
  refine fx_inv (B := s_l9Cut_L1 n) (fun s => ∃ x y : Nat, s = ((a : Int), (b : Int), (x : Int), (y : Int), ⟨0, 0⟩) ∧ Nat.gcd x y = Nat.gcd a b) (fun s => s.2.2.2.1.toNat) (fun o => o = some (FR a b)) ?_ n _ ⟨a, b, rfl, rfl⟩ (big_gt hn (by simp only []; omega))
  rintro self _ ⟨x, y, rfl, hxy⟩ ih
  simp only [s_l9Cut_L1, lt_eq]
  by_cases hy : y = 0
  · subst hy
    rw [Nat.gcd_zero_right] at hxy
    subst hxy
    have em : s_l1Most n ((Nat.gcd a b : Nat) : Int) 1 = some ((Nat.gcd a b : Nat) : Int) := by
      unfold s_l1Most
      rw [br_dec]
      split
      · rfl
      · congr 1; omega
    rw [br_neg (by simp), em, ob_some, ckb_pos (by simp; omega), ob_some, ckb_pos (by simp; omega)]
    have e1 : ∀ z : Nat, Int.tdiv (z : Int) ((Nat.gcd a b : Nat) : Int) = ((z / Nat.gcd a b : Nat) : Int) := fun z => rfl
    have d1 := Nat.div_le_self a (Nat.gcd a b)
    have d2 := Nat.div_le_self b (Nat.gcd a b)
    unfold FR
    rw [e1, e1]
    generalize a / Nat.gcd a b = u at d1 ⊢
    generalize b / Nat.gcd a b = v at d2 ⊢
    rw [w64_id (by omega), w64_id (by omega)]
  · rw [br_pos (by simp; omega), ckb_pos (by simp; omega)]
    have e1 : Int.tmod (x : Int) (y : Int) = ((x % y : Nat) : Int) := rfl
    rw [e1]
    have := Nat.mod_lt x (show 0 < y by omega)
    exact ih _ ⟨y, x % y, rfl, by rw [gcd_step]; exact hxy⟩ (by simp only []; omega)
/-- a fraction is told by its two numbers -/
theorem FR_cross {a b : Nat} (hb : 0 < b) : ∃ p q : Nat, FR a b = ⟨(p : Int), (q : Int)⟩ ∧ p * b = a * q ∧ 0 < q ∧ p ≤ a ∧ q ≤ b := by
  have hg : 0 < Nat.gcd a b := Nat.gcd_pos_of_pos_right _ hb
  refine ⟨_, _, rfl, ?_, Nat.div_pos (Nat.gcd_le_right _ hb) hg, Nat.div_le_self _ _, Nat.div_le_self _ _⟩
  obtain ⟨x, hx⟩ := Nat.gcd_dvd_left a b
  obtain ⟨y, hy⟩ := Nat.gcd_dvd_right a b
  generalize Nat.gcd a b = g at hg hx hy
  subst hx hy
  rw [Nat.mul_div_cancel_left _ hg, Nat.mul_div_cancel_left _ hg, Nat.mul_left_comm, Nat.mul_assoc]
theorem FR_one (a : Nat) : FR a 1 = ⟨(a : Int), 1⟩ := by unfold FR; simp
/-- as much and as many times as much -/
theorem FR_mul {a b k : Nat} (hk : 0 < k) : FR (a * k) (b * k) = FR a b := by
  unfold FR
  rw [Nat.gcd_mul_right, Nat.mul_div_mul_right _ _ hk, Nat.mul_div_mul_right _ _ hk]
end Go.Pl
namespace Go.Pl
open Go Go.Tv Go.RowKit
set_option linter.unusedVariables false

/-! cards without one -/
def wo (h : List Card) (c : Card) : List Card := h.filter fun x => !decide (x = c)
theorem sub_clr {α : Type} (z : α) {e : List α} {i : Nat} (hi : i ≤ e.length) : sub (clr z e i (e.length - i)) 0 i = e.take i := by
  unfold sub clr
  rw [Nat.sub_zero, List.drop_zero, List.append_assoc, List.take_append_of_le_length (by simp; omega), List.take_take, Nat.min_self]
theorem clr_len {α : Type} (z : α) {e : List α} {i : Nat} (hi : i ≤ e.length) : (clr z e i (e.length - i)).length = e.length := by unfold clr; simp; omega
theorem delete_ok {n : Nat} (hn : BIG ≤ n) {h : List Card} (hl : h.length ≤ 1000000) (c : Card) : slices_DeleteFunc_SA4_A4_'o_i_without_1p n h c = some (c, wo h c) := by
  unfold slices_DeleteFunc_SA4_A4_'o_i_without_1p slices_IndexFunc_SA4_A4_'l_i_without_1p
  have := fx_find (B := slices_IndexFunc_SA4_A4_'l_i_without_1p_L1 n) h (fun i => (h, (h.length : Int), (i : Int), c)) (fun x => decide (x = c)) (fun i => some ((i : Int), c)) (some ((-1), c)) (fun self i hi => ?_) (fun self => ?_) n (big_gt hn (by omega))
  · have e : ((0 : Nat) : Int) = 0 := rfl
    simp only [e] at this
    rw [this]
    cases hf : h.findIdx? (fun x => decide (x = c)) with
    | none =>
      simp only [ob_some]
      simp only [decide_true, br_true]
      congr 2
      unfold wo
      symm
      refine List.filter_eq_self.2 fun x hx => ?_
      have := List.findIdx?_eq_none_iff.1 hf x hx
      simp only [decide_eq_false_iff_not] at this
      simp [this]
    | some i =>
      obtain ⟨h1, h2, h3⟩ := List.findIdx?_eq_some_iff_getElem.1 hf
      simp only [ob_some, lt_eq]
      rw [br_neg (decide_eq_false (by omega)), w64_succ (by omega)]
      refine fx_inv (B := slices_DeleteFunc_SA4_A4_'o_i_without_1p_L1 n) (fun s => ∃ (i j : Nat) (e : List Card), s = ((i : Int), (j : Int), e, c) ∧ i < j ∧ j ≤ h.length ∧ e.length = h.length ∧ e.take i = wo (h.take j) c ∧ ∀ q, j ≤ q → gl (⟨0, 0, 0, 0⟩ : Card) e q = gl (⟨0, 0, 0, 0⟩ : Card) h q)
        (fun s => 2000000 - s.2.1.toNat) (fun o => o = some (c, wo h c)) ?_ n _ ⟨i, i + 1, h, rfl, by omega, by omega, rfl, ?_, fun q _ => rfl⟩ (big_gt hn (by simp only []; omega))
      · rintro self _ ⟨i, j, e, rfl, hij, hj, hle, ht, hr⟩ ih
        simp only [slices_DeleteFunc_SA4_A4_'o_i_without_1p_L1, i_without_1'p, ob_some, lt_eq]
        by_cases hlt : j < h.length
        · rw [br_pos (decide_eq_true (show (j : Int) < (e.length : Int) by omega)), ckb_pos (inb_ok (by omega)), toNat_cast, hr j (Nat.le_refl _), w64_succ (k := j) (by omega), gl_eq hlt]
          have hw : wo (h.take (j + 1)) c = wo (h.take j) c ++ wo [h[j]] c := by rw [take_snoc hlt]; unfold wo; rw [List.filter_append]
          by_cases hc : h[j] = c
          · rw [br_neg (show (!eqd h[j] c) = false by unfold eqd; rw [decide_eq_true hc]; rfl)]
            refine ih _ ⟨i, j + 1, e, rfl, by omega, by omega, hle, ?_, fun q hq => hr q (by omega)⟩ (by simp only []; omega)
            rw [hw, ht]
            simp [wo, hc]
          · rw [br_pos (show (!eqd h[j] c) = true by unfold eqd; rw [decide_eq_false hc]; rfl), ckb_pos (inb_ok (by omega)), w64_succ (by omega)]
            refine ih _ ⟨i + 1, j + 1, e.set i h[j], rfl, by omega, by omega, by rw [List.length_set]; exact hle, ?_, fun q hq => ?_⟩ (by simp only []; omega)
            · rw [hw, ← ht]
              rw [take_snoc (show i < (e.set i h[j]).length by rw [List.length_set]; omega), List.getElem_set_self, List.take_set_of_le (by omega)]
              simp [wo, hc]
            · rw [gl_set _ _ _ _ (by omega), if_neg (by omega)]; exact hr q (by omega)
        · have : j = h.length := by omega
          subst this
          rw [br_neg (decide_eq_false (by omega)), ckb_pos (slb_ok (by omega) (by omega) (by omega)), w64_id (x := (e.length : Int) - (i : Int)) (by omega)]
          have e1 : ((e.length : Int) - (i : Int)).toNat = e.length - i := by omega
          rw [e1, toNat_cast, ckb_pos (slb_ok (by omega) (by omega) (by rw [clr_len _ (by omega)]; omega)), w64_id (x := (i : Int) - 0) (by omega)]
          have e2 : ((i : Int) - 0).toNat = i := by omega
          rw [e2, sub_clr _ (by omega), ht, List.take_length]
      · rw [take_snoc h1]
        unfold wo
        rw [List.filter_append]
        have h2' := of_decide_eq_true h2
        have : List.filter (fun x => !decide (x = c)) (h.take i) = h.take i := by
          refine List.filter_eq_self.2 fun x hx => ?_
          obtain ⟨k, hk, rfl⟩ := List.getElem_of_mem hx
          rw [List.length_take] at hk
          have := h3 k (by omega)
          rw [List.getElem_take]
          simp only [decide_eq_true_eq] at this
          simp [this]
        rw [this]
        simp [h2']
  · have e1 : decide ((i : Int) < (h.length : Int)) = true := decide_eq_true (by omega)
    simp only [slices_IndexFunc_SA4_A4_'l_i_without_1p_L1, e1, br_true, i_without_1'p, ob_some, lt_eq]
    rw [ckb_pos (inb_ok hi), toNat_cast, gl_eq hi, w64_succ (by omega)]
    unfold eqd
    by_cases hc : h[i] = c <;> simp [hc]
  · have e1 : decide ((h.length : Int) < (h.length : Int)) = false := decide_eq_false (by omega)
    simp only [slices_IndexFunc_SA4_A4_'l_i_without_1p_L1, e1, br_false]
theorem i_without_eq {n : Nat} (hn : BIG ≤ n) {h : List Card} (hl : h.length ≤ 1000000) (c : Card) : i_without n h c = some (wo h c) := by
  unfold i_without
  rw [slices_Clone_SA4_A4__eq (by omega), ob_some, delete_ok hn hl, ob_some]
theorem i_DropCard_eq {n : Nat} (hn : BIG ≤ n) {h : List Card} (hl : h.length ≤ 1000000) (c : Card) : i_DropCard n h c = some (if hand h && h.contains c then (true, wo h c) else (false, [])) := by
  unfold i_DropCard
  rw [i_IsHand_eq hn (by omega), i_has_eq hn (by omega)]
  simp only [ob_some, br_some]
  cases hand h with
  | false => rfl
  | true =>
    cases h.contains c with
    | false => rfl
    | true =>
      show br false _ _ = _
      rw [br_false, i_without_eq hn hl, ob_some]; rfl
end Go.Pl
namespace Go.Pl
open Go Go.Tv Go.RowKit
set_option linter.unusedVariables false
set_option linter.unusedSimpArgs false

/-! what the functions on cards tell -/
theorem areCards_3 {n : Nat} (hn : BIG ≤ n) (a b c : Card) : i_areCards n [a, b, c] = some (isC a && (isC b && isC c)) := by
  have e : ∀ x, i_areCards_1 n x = some (! isC x) := fun x => by unfold i_areCards_1; rw [i_IsCard_eq hn]; rfl
  obtain ⟨m, rfl⟩ : ∃ m, n = m + 5 := ⟨n - 5, by unfold BIG at hn; omega⟩
  unfold i_areCards slices_ContainsFunc_SA4_A4_'l_i_areCards_1 slices_IndexFunc_SA4_A4_'l_i_areCards_1
  simp only [fx_succ, slices_IndexFunc_SA4_A4_'l_i_areCards_1_L1]
  simp only [e, ob_some, inb, gl]
  cases h0 : isC a <;> cases h1 : isC b <;> cases h2 : isC c <;> simp [h0, h1, h2]
theorem areCards_2 {n : Nat} (hn : BIG ≤ n) (a b : Card) : i_areCards n [a, b] = some (isC a && isC b) := by
  have e : ∀ x, i_areCards_1 n x = some (! isC x) := fun x => by unfold i_areCards_1; rw [i_IsCard_eq hn]; rfl
  obtain ⟨m, rfl⟩ : ∃ m, n = m + 5 := ⟨n - 5, by unfold BIG at hn; omega⟩
  unfold i_areCards slices_ContainsFunc_SA4_A4_'l_i_areCards_1 slices_IndexFunc_SA4_A4_'l_i_areCards_1
  simp only [fx_succ, slices_IndexFunc_SA4_A4_'l_i_areCards_1_L1]
  simp only [e, ob_some, inb, gl]
  cases h0 : isC a <;> cases h1 : isC b <;> simp [h0, h1]

def d1 (x y : Int) : Int := if x = y then 0 else 1
def dif (a b : Card) : Int := d1 a.x0 b.x0 + d1 a.x1 b.x1 + d1 a.x2 b.x2 + d1 a.x3 b.x3
theorem d1_bd (x y : Int) : 0 ≤ d1 x y ∧ d1 x y ≤ 1 := by unfold d1; split <;> omega
theorem differ_step (n : Nat) (go : Int × Int × Card × Card → Option Int) (k i : Int) (a b : Card) (hi : 0 ≤ i ∧ i ≤ 3) (hk : 0 ≤ k ∧ k ≤ 100) :
    s_l2Differ_L1 n go (k, i, a, b) = go (k + d1 (V4.get a i.toNat) (V4.get b i.toNat), i + 1, a, b) := by
  unfold s_l2Differ_L1
  have e : inb i 4 = true := inb_pos hi.1 (by omega)
  have e2 : decide (i < 4) = true := decide_eq_true (by omega)
  simp only [lt_eq]
  rw [e2, br_true, e, ckb_true, ckb_true, w64_id (x := i + 1) (by omega), w64_id (x := k + 1) (by omega)]
  unfold d1
  by_cases h : V4.get a i.toNat = V4.get b i.toNat
  · rw [if_pos h]; simp [h]
  · rw [if_neg h]; simp [h]
theorem s_l2Differ_eq {n : Nat} (hn : BIG ≤ n) (a b : Card) : s_l2Differ n a b = some (dif a b) := by
  obtain ⟨m, rfl⟩ : ∃ m, n = m + 5 := ⟨n - 5, by unfold BIG at hn; omega⟩
  unfold s_l2Differ dif
  have h0 := d1_bd a.x0 b.x0; have h1 := d1_bd a.x1 b.x1; have h2 := d1_bd a.x2 b.x2
  rw [fx_succ, differ_step _ _ _ _ _ _ (by omega) (by omega)]
  show fx _ (m + 4) (0 + d1 a.x0 b.x0, 0 + 1, a, b) = _
  rw [fx_succ, differ_step _ _ _ _ _ _ (by omega) (by omega)]
  show fx _ (m + 3) (0 + d1 a.x0 b.x0 + d1 a.x1 b.x1, 0 + 1 + 1, a, b) = _
  rw [fx_succ, differ_step _ _ _ _ _ _ (by omega) (by omega)]
  show fx _ (m + 2) (0 + d1 a.x0 b.x0 + d1 a.x1 b.x1 + d1 a.x2 b.x2, 0 + 1 + 1 + 1, a, b) = _
  rw [fx_succ, differ_step _ _ _ _ _ _ (by omega) (by omega)]
  show fx _ (m + 1) (0 + d1 a.x0 b.x0 + d1 a.x1 b.x1 + d1 a.x2 b.x2 + d1 a.x3 b.x3, 0 + 1 + 1 + 1 + 1, a, b) = _
  rw [fx_succ]
  show some (0 + d1 a.x0 b.x0 + d1 a.x1 b.x1 + d1 a.x2 b.x2 + d1 a.x3 b.x3) = _
  rw [Int.zero_add]
theorem i_differ_eq {n : Nat} (hn : BIG ≤ n) (a b : Card) : i_differ n a b = some (dif a b) := by rw [← s_l2Differ_eq hn]; rfl
theorem dif_pos (a b : Card) : decide (0 < dif a b) = !decide (a = b) := by
  cases a with | _ a0 a1 a2 a3 =>
  cases b with | _ b0 b1 b2 b3 =>
  unfold dif d1
  simp only [V4.mk.injEq]
  by_cases h0 : a0 = b0 <;> by_cases h1 : a1 = b1 <;> by_cases h2 : a2 = b2 <;> by_cases h3 : a3 = b3 <;> simp [h0, h1, h2, h3]

/-- ThirdCard -/
def T3 (a b : Card) : Card × Bool := if (isC a && isC b && !decide (a = b)) = true then (third a b, true) else (⟨0, 0, 0, 0⟩, false)
theorem s_ThirdCard_eq {n : Nat} (hn : BIG ≤ n) (a b : Card) : s_ThirdCard n a b = some (T3 a b) := by
  unfold s_ThirdCard T3
  rw [s_l2Card_eq hn, s_l2Card_eq hn]
  cases ha : isC a <;> cases hb : isC b <;> by_cases h : a = b <;> simp [eqd, h, br_some]
  all_goals first | rfl | skip
  all_goals rw [s_l2Third_eq hn (by simp_all) (by simp_all)]; rfl
theorem i_ThirdCard_eq {n : Nat} (hn : BIG ≤ n) (a b : Card) : i_ThirdCard n a b = some (T3 a b) := by
  unfold i_ThirdCard T3
  rw [i_IsCard_eq hn, i_IsCard_eq hn]
  cases ha : isC a <;> cases hb : isC b <;> by_cases h : a = b <;> simp [eqd, h, br_some]
  all_goals first | rfl | skip
  all_goals rw [i_third_eq hn (by simp_all) (by simp_all)]; rfl
/-- IsLine -/
def I3 (a b c : Card) : Bool × Bool := if (isC a && (isC b && isC c)) = true then (lineB a b c, true) else (false, false)
theorem i_IsLine_eq {n : Nat} (hn : BIG ≤ n) (a b c : Card) : i_IsLine n a b c = some (I3 a b c) := by
  unfold i_IsLine I3
  rw [areCards_3 hn]
  cases ha : isC a <;> cases hb : isC b <;> cases hc : isC c <;> simp
  rw [i_isLine_eq hn c ha hb]; rfl
theorem s_IsLine_eq {n : Nat} (hn : BIG ≤ n) (a b c : Card) : s_IsLine n a b c = some (I3 a b c) := by
  unfold s_IsLine I3
  rw [s_l2Card_eq hn, s_l2Card_eq hn, s_l2Card_eq hn]
  cases ha : isC a <;> cases hb : isC b <;> cases hc : isC c <;> simp
  rw [s_l2Line_eq hn c ha hb]; rfl
/-- LineKind -/
def K3 (a b c : Card) : Int × Bool := if (isC a && (isC b && isC c) && lineB a b c) = true then (dif a b, true) else (0, false)
theorem i_LineKind_eq {n : Nat} (hn : BIG ≤ n) (a b c : Card) : i_LineKind n a b c = some (K3 a b c) := by
  unfold i_LineKind K3
  rw [areCards_3 hn, i_differ_eq hn]
  cases ha : isC a <;> cases hb : isC b <;> cases hc : isC c <;> simp
  rw [i_isLine_eq hn c ha hb]
  cases lineB a b c <;> rfl
theorem s_LineKind_eq {n : Nat} (hn : BIG ≤ n) (a b c : Card) : s_LineKind n a b c = some (K3 a b c) := by
  unfold s_LineKind K3
  rw [s_l2Card_eq hn, s_l2Card_eq hn, s_l2Card_eq hn, s_l2Differ_eq hn]
  cases ha : isC a <;> cases hb : isC b <;> cases hc : isC c <;> simp
  rw [s_l2Line_eq hn c ha hb]
  cases lineB a b c <;> rfl
def D2 (a b : Card) : Int × Bool := if (isC a && isC b) = true then (dif a b, true) else (0, false)
theorem i_DifferIn_eq {n : Nat} (hn : BIG ≤ n) (a b : Card) : i_DifferIn n a b = some (D2 a b) := by
  unfold i_DifferIn D2
  rw [areCards_2 hn, i_differ_eq hn]
  cases ha : isC a <;> cases hb : isC b <;> simp
theorem s_DifferIn_eq {n : Nat} (hn : BIG ≤ n) (a b : Card) : s_DifferIn n a b = some (D2 a b) := by
  unfold s_DifferIn D2
  rw [s_l2Card_eq hn, s_l2Card_eq hn, s_l2Differ_eq hn]
  cases ha : isC a <;> cases hb : isC b <;> simp
def N1 (a : Card) : Int × Bool := if isC a = true then (num a, true) else (0, false)
theorem i_CardNumber_eq {n : Nat} (hn : BIG ≤ n) (a : Card) : i_CardNumber n a = some (N1 a) := by
  unfold i_CardNumber N1
  rw [i_IsCard_eq hn]
  cases ha : isC a <;> simp
  rw [i_number_eq hn ha]; rfl
theorem s_CardNumber_eq {n : Nat} (hn : BIG ≤ n) (a : Card) : s_CardNumber n a = some (N1 a) := by
  unfold s_CardNumber N1
  rw [s_l2Card_eq hn]
  cases ha : isC a <;> simp
  rw [s_l2Number_eq ha]; rfl
def A1 (k : Int) : Card × Bool := if 0 ≤ k ∧ k ≤ 80 then (cardAt k, true) else (⟨0, 0, 0, 0⟩, false)
theorem i_CardAt_eq (n : Nat) (k : Int) : i_CardAt n k = some (A1 k) := by
  unfold i_CardAt A1
  rw [i_within_eq]
  by_cases h : 0 ≤ k ∧ k ≤ 80
  · rw [i_card_eq n h]; simp [h]
  · simp [h]
theorem s_CardAt_eq (n : Nat) (k : Int) : s_CardAt n k = some (A1 k) := by
  unfold s_CardAt A1
  rw [s_l1In_eq]
  by_cases h : 0 ≤ k ∧ k ≤ 80
  · rw [s_l2At_eq n h]; simp [h]
  · simp [h]
/-- texts of cards: all 81 -/
def bsq : Option ByteArray → Option ByteArray → Bool
  | some a, some b => decide (a.data.toList = b.data.toList) && Nat.beq a.data.toList.length 4
  | _, _ => false
theorem text_run (m : Nat) : (cards81.all fun c => bsq (i_cardText (m + 64) c) (s_l2Text (m + 64) c)) = true := by kernel_rfl
theorem bsq_eq {a b : Option ByteArray} (h : bsq a b = true) : ∃ x, a = some x ∧ b = some x ∧ x.size = 4 := by
  cases a with
  | none => cases h
  | some a =>
    cases b with
    | none => cases h
    | some b =>
      have h : (decide (a.data.toList = b.data.toList) && Nat.beq a.data.toList.length 4) = true := h
      rw [Bool.and_eq_true] at h
      have e : a.data.toList = b.data.toList := of_decide_eq_true h.1
      refine ⟨a, rfl, ?_, ?_⟩
      · cases a with | _ a => cases b with | _ b =>
        have : a = b := Array.toList_inj.1 e
        rw [this]
      · have := Nat.eq_of_beq_eq_true h.2
        exact this
theorem text_ok {n : Nat} (hn : BIG ≤ n) {c : Card} (hc : isC c = true) : ∃ x, i_cardText n c = some x ∧ s_l2Text n c = some x ∧ x.size = 4 := by
  obtain ⟨m, rfl⟩ : ∃ m, n = m + 64 := ⟨n - 64, by unfold BIG at hn; omega⟩
  exact bsq_eq (List.all_eq_true.1 (text_run m) c (mem_cards81 hc))
end Go.Pl
namespace Go.Pl
open Go Go.Tv Go.RowKit
set_option linter.unusedVariables false

/-! the cards that a hand has not -/
theorem cardAt_inj {a b : Nat} (ha : a < 81) (hb : b < 81) (h : cardAt (a : Int) = cardAt (b : Int)) : a = b := by
  have := congrArg num h
  rw [num_cardAt (by omega), num_cardAt (by omega)] at this
  omega
def nat81 (c : Card) : Nat := (num c).toNat
theorem nat81_lt {c : Card} (h : isC c = true) : nat81 c < 81 := by have := num_bd h; unfold nat81; omega
theorem cardAt_nat81 {c : Card} (h : isC c = true) : cardAt (nat81 c : Int) = c := by
  have := num_bd h
  have e : ((nat81 c : Nat) : Int) = num c := by unfold nat81; omega
  rw [e, cardAt_num h]
theorem nat81_cardAt {k : Nat} (h : k < 81) : nat81 (cardAt (k : Int)) = k := by unfold nat81; rw [num_cardAt (by omega)]; rfl
def rs1 (h : List Card) (k : Nat) : List Card := if h.contains (cardAt k) = true then [] else [cardAt k]
def restK (h : List Card) (k : Nat) : List Card := (List.range' 0 (k - 0)).flatMap (rs1 h)
def rstC (h : List Card) : List Card := restK h 81
theorem restK_succ (h : List Card) (k : Nat) : restK h (k + 1) = restK h k ++ rs1 h k := by
  unfold restK
  simp only [Nat.sub_zero]
  rw [List.range'_concat, List.flatMap_append]
  simp
theorem restK_len (h : List Card) : ∀ k, (restK h k).length + (S k fun i => b2 (h.contains (cardAt i))) = k
  | 0 => rfl
  | k + 1 => by
    have ih := restK_len h k
    rw [restK_succ, List.length_append, S]
    unfold rs1
    cases hc : h.contains (cardAt (k : Int)) with
    | true => rw [if_pos rfl, List.length_nil, show b2 true = 1 from rfl]; omega
    | false => rw [if_neg (by simp), List.length_singleton, show b2 false = 0 from rfl]; omega
theorem sum_ind (h : List Card) (f : Card → Nat) (hc : AllC h) (hnd : h.Nodup) : (S 81 fun k => if h.contains (cardAt k) = true then f (cardAt k) else 0) = (h.map f).sum := by
  induction h with
  | nil => simp [S_zero]
  | cons c l ih =>
    have cc := hc c List.mem_cons_self
    obtain ⟨h1, h2⟩ := List.nodup_cons.1 hnd
    have ih := ih (fun x hx => hc x (List.mem_cons_of_mem _ hx)) h2
    rw [List.map_cons, List.sum_cons, ← ih]
    have e : ∀ k : Nat, k < 81 → (if (c :: l).contains (cardAt k) = true then f (cardAt k) else 0) = (if k = nat81 c then f c else 0) + (if l.contains (cardAt k) = true then f (cardAt k) else 0) := fun k hk => by
      rw [List.contains_cons]
      by_cases hk2 : k = nat81 c
      · rw [if_pos hk2]
        have e1 : cardAt (k : Int) = c := by rw [hk2, cardAt_nat81 cc]
        have e2 : l.contains (cardAt (k : Int)) = false := by rw [e1, ← Bool.not_eq_true, List.contains_iff_mem]; exact h1
        rw [e2, e1]; simp
      · rw [if_neg hk2]
        have e1 : (cardAt (k : Int) == c) = false := by
          rw [beq_eq_false_iff_ne]
          intro e; apply hk2
          rw [← e, nat81_cardAt hk]
        rw [e1, Bool.false_or]; omega
    have : ∀ m, (S m fun k => if k = nat81 c then f c else 0) = if nat81 c < m then f c else 0 := fun m => by
      induction m with
      | zero => simp [S]
      | succ m ihm =>
        rw [S, ihm]
        by_cases a : nat81 c < m
        · rw [if_pos a, if_neg (by omega), if_pos (by omega)]; omega
        · by_cases b : m = nat81 c
          · rw [if_neg a, if_pos b, if_pos (by omega)]; omega
          · rw [if_neg a, if_neg b, if_neg (by omega)]
    rw [S_congr e, S_add, this, if_pos (nat81_lt cc)]
theorem rstC_len {h : List Card} (H : HandL h) : (rstC h).length + h.length = 81 := by
  have h1 := restK_len h 81
  have h2 := sum_ind h (fun _ => 1) H.c H.nd
  have h3 : (h.map fun _ => 1).sum = h.length := by
    clear h1 h2 H
    induction h with
    | nil => rfl
    | cons c l ih => rw [List.map_cons, List.sum_cons, ih, List.length_cons]; omega
  rw [h3] at h2
  have h4 : (S 81 fun i => b2 (h.contains (cardAt i))) = S 81 fun k => if h.contains (cardAt k) = true then 1 else 0 := S_congr fun k _ => by unfold b2; rfl
  unfold rstC; omega
theorem restK_allC (h : List Card) {k : Nat} (hk : k ≤ 81) : AllC (restK h k) := by
  induction k with
  | zero => intro c hc; simp [restK] at hc
  | succ k ih =>
    intro c hc
    rw [restK_succ, List.mem_append] at hc
    rcases hc with hc | hc
    · exact ih (by omega) c hc
    · unfold rs1 at hc
      split at hc
      · cases hc
      · rw [List.mem_singleton] at hc; subst hc; exact cardAt_isC (by omega)
theorem restK_le (h : List Card) (k : Nat) : (restK h k).length ≤ k := by have := restK_len h k; omega
/-- lines of a card that a hand has not, all of them -/
def totK (h : List Card) (k : Nat) : Nat := ((restK h k).map (thr h)).sum
def tot (h : List Card) : Nat := totK h 81
theorem totK_succ (h : List Card) (k : Nat) : totK h (k + 1) = totK h k + if h.contains (cardAt k) = true then 0 else thr h (cardAt k) := by
  unfold totK
  rw [restK_succ, List.map_append, List.sum_append]
  unfold rs1
  split <;> simp
theorem totK_S (h : List Card) : ∀ k, totK h k = S k fun i => if h.contains (cardAt i) = true then 0 else thr h (cardAt i)
  | 0 => rfl
  | k + 1 => by rw [totK_succ, totK_S h k, S]
theorem U_T (g : Nat → Nat → Nat) : ∀ N, (S N fun i => ((List.range' (i + 1) (N - (i + 1))).map (g i)).sum) = T N fun j i => g i j
  | 0 => rfl
  | N + 1 => by
    rw [T_succ, ← U_T g N, S]
    have e : ∀ i, i < N → ((List.range' (i + 1) (N + 1 - (i + 1))).map (g i)).sum = ((List.range' (i + 1) (N - (i + 1))).map (g i)).sum + g i N := fun i hi => by
      rw [show N + 1 - (i + 1) = (N - (i + 1)) + 1 by omega, List.range'_concat, List.map_append, List.sum_append]
      have e3 : i + 1 + 1 * (N - (i + 1)) = N := by omega
      rw [e3]; simp
    rw [S_congr e, S_add]
    simp
theorem len_flatMap {α β : Type} (f : α → List β) : ∀ l : List α, (l.flatMap f).length = (l.map fun a => (f a).length).sum
  | [] => rfl
  | a :: l => by rw [List.flatMap_cons, List.length_append, len_flatMap f l, List.map_cons, List.sum_cons]
theorem thr_T (h : List Card) (c : Card) : thr h c = T h.length fun j i => b2 (lineB (gz h i) (gz h j) c) := by
  rw [← U_T fun i j => b2 (lineB (gz h i) (gz h j) c)]
  unfold thr prs
  rw [len_flatMap, S_range']
  refine S_congr fun i _ => ?_
  unfold pr2
  rw [len_flatMap]
  congr 1
  refine List.map_congr_left fun j _ => ?_
  unfold pr1 b2
  split <;> rfl
theorem tot_open {h : List Card} (H : HandL h) : tot h = opn h := by
  unfold tot opn
  rw [totK_S]
  have e : ∀ k : Nat, k < 81 → (if h.contains (cardAt (k : Int)) = true then 0 else thr h (cardAt k)) = T h.length fun j i => b2 (lineB (gz h i) (gz h j) (cardAt k) && !h.contains (cardAt (k : Int))) := fun k _ => by
    cases hc : h.contains (cardAt (k : Int)) with
    | true =>
      rw [if_pos rfl]
      have : (T h.length fun j i => b2 (lineB (gz h i) (gz h j) (cardAt k) && !true)) = T h.length fun _ _ => 0 := T_congr fun i j _ _ => by simp [b2]
      rw [this, T_const, Nat.mul_zero]
    | false =>
      rw [if_neg (by simp), thr_T]
      exact T_congr fun i j _ _ => by simp
  rw [S_congr e, ← T_swap (fun k j i => b2 (lineB (gz h i) (gz h j) (cardAt k) && !h.contains (cardAt (k : Int))))]
  refine T_congr fun j i hij hj => ?_
  have cj : isC (gz h j) = true := gl_C H.c hj
  have ci : isC (gz h i) = true := gl_C H.c (by omega)
  have ct := third_isC ci cj
  have e2 : ∀ k : Nat, k < 81 → b2 (lineB (gz h i) (gz h j) (cardAt (k : Int)) && !h.contains (cardAt (k : Int))) = b2 (decide (nat81 (third (gz h i) (gz h j)) = k) && !h.contains (cardAt (k : Int))) := fun k hk => by
    congr 2
    unfold lineB
    have hne : gz h i ≠ gz h j := H.ne (by omega) hj (by omega)
    rw [decide_eq_false hne, Bool.not_false, Bool.true_and]
    congr 1
    apply propext
    constructor
    · intro e; rw [e, nat81_cardAt hk]
    · intro e; rw [← e, cardAt_nat81 ct]
  rw [S_congr e2, S_ind (nat81_lt ct) fun k => !h.contains (cardAt (k : Int)), cardAt_nat81 ct, th_comm]

theorem s_l9Rest_eq {n : Nat} (hn : BIG ≤ n) {h : List Card} (hl : h.length ≤ 1000000) : s_l9Rest n h = some (rstC h) := by
  unfold s_l9Rest rstC
  refine fx_cnt (B := s_l9Rest_L1 n) 81 (fun k => (h, (k : Int), restK h k)) (fun _ => True) (fun _ => some (restK h 81)) (fun self k hk _ ih => ?_) n 0 (by omega) trivial (big_gt hn (by omega))
  simp only [s_l9Rest_L1, lt_eq]
  by_cases hlt : k < 81
  · rw [br_pos (decide_eq_true (show (k : Int) < 81 by omega)), s_l2At_eq n (by omega), ob_some, s_l2Has_eq hn (by omega), ob_some, w64_succ (by omega)]
    have ih := ih hlt trivial
    have hlen := restK_le h k
    rw [restK_succ] at ih
    unfold rs1 at ih
    cases hc : h.contains (cardAt (k : Int)) with
    | true =>
      rw [hc, if_pos rfl, List.append_nil] at ih
      rw [Bool.not_true, br_false]; exact ih
    | false =>
      rw [hc, if_neg (by simp)] at ih
      rw [Bool.not_false, br_true, ckb_pos (apok_ok (by omega) (by omega))]; exact ih
  · have : k = 81 := by omega
    subst this
    rw [br_neg (decide_eq_false (by omega))]

/-! the best third card -/
def btOp (h : List Card) (a : Int × Int) (c : Card) : Int × Int := if a.2 < (thr h c : Int) then (num c, (thr h c : Int)) else a
def btK (h : List Card) (k : Nat) : Int × Int := (restK h k).foldl (btOp h) (0, -1)
theorem btK_succ (h : List Card) (k : Nat) : btK h (k + 1) = if h.contains (cardAt k) = true then btK h k else btOp h (btK h k) (cardAt k) := by
  unfold btK
  rw [restK_succ, List.foldl_append]
  unfold rs1
  split <;> rfl
def BT (h : List Card) : Int × Int × Bool := if hand h then ((btK h 81).1, (btK h 81).2, true) else (0, 0, false)
theorem i_BestThird_eq {n : Nat} (hn : BIG ≤ n) {h : List Card} (hl : h.length ≤ 1048576) : i_BestThird n h = some (BT h) := by
  unfold i_BestThird BT
  rw [i_IsHand_eq hn (by omega), ob_some]
  cases hh : hand h with
  | false => rfl
  | true =>
    have H := HandL.of hh
    rw [Bool.not_true, br_false, if_pos rfl]
    refine fx_cnt (B := i_BestThird_L1 n) 81 (fun k => (h, (btK h k).1, (btK h k).2, (k : Int))) (fun _ => True) (fun _ => some ((btK h 81).1, (btK h 81).2, true)) (fun self k hk _ ih => ?_) n 0 (by omega) trivial (big_gt hn (by omega))
    simp only [i_BestThird_L1, lt_eq]
    by_cases hlt : k < 81
    · rw [br_pos (decide_eq_true (show (k : Int) < 81 by omega)), i_card_eq n (by omega), ob_some, i_has_eq hn (by have := H.len; omega), ob_some, i_pairsFor_eq hn H, ob_some, w64_succ (by omega)]
      have ih := ih hlt trivial
      rw [btK_succ] at ih
      cases hc : h.contains (cardAt (k : Int)) with
      | true =>
        rw [hc, if_pos rfl] at ih
        rw [Bool.not_true, br_false]; exact ih
      | false =>
        rw [hc, if_neg (by simp)] at ih
        rw [Bool.not_false, br_true, br_dec]
        unfold btOp at ih
        show (if (btK h k).2 < (thr h (cardAt (k : Int)) : Int) then _ else _) = _
        by_cases hx : (btK h k).2 < (thr h (cardAt (k : Int)) : Int)
        · rw [if_pos hx] at ih ⊢
          simp only [] at ih
          rw [num_cardAt (by omega)] at ih
          exact ih
        · rw [if_neg hx] at ih ⊢; exact ih
    · have : k = 81 := by omega
      subst this
      rw [br_neg (decide_eq_false (by omega))]
theorem s_BestThird_eq {n : Nat} (hn : BIG ≤ n) {h : List Card} (hl : h.length ≤ 1048576) : s_BestThird n h = some (BT h) := by
  unfold s_BestThird BT
  rw [s_l2Hand_eq hn (by omega), ob_some]
  cases hh : hand h with
  | false => rfl
  | true =>
    have H := HandL.of hh
    have hL := H.len
    rw [Bool.not_true, br_false, if_pos rfl, s_l9Rest_eq hn (by omega), ob_some]
    have hrc := restK_allC h (k := 81) (by omega)
    have hrl := restK_le h 81
    have hbt : btK h 81 = (rstC h).foldl (btOp h) (0, -1) := rfl
    rw [hbt]
    have hrc : AllC (rstC h) := hrc
    have hrl : (rstC h).length ≤ 81 := hrl
    generalize rstC h = R at hrc hrl ⊢
    refine fx_foldl (B := s_BestThird_L1 n) R (fun i a => (h, a.1, a.2, (i : Int), R)) (btOp h) (fun a => some (a.1, a.2, true)) (fun _ _ => True) (fun _ _ _ _ => trivial) (fun self i a hi _ => ?_) (fun self a _ => ?_) n (big_gt hn (by omega)) (0, -1) trivial
    · have hc : isC R[i] = true := hrc _ (List.getElem_mem hi)
      simp only [s_BestThird_L1, lt_eq]
      rw [br_pos (decide_eq_true (show (i : Int) < (R.length : Int) by omega)), ckb_pos (inb_ok hi), toNat_cast, gl_eq hi, s_l2Through_eq hn H, ob_some, ckb_pos (inb_ok hi), s_l2Number_eq hc, ob_some, w64_succ (by omega), br_dec]
      unfold btOp
      split <;> rfl
    · simp only [s_BestThird_L1]
      rw [br_neg (decide_eq_false (by omega))]
/-- the first one of the best -/
theorem btK_best {h : List Card} (hc : AllC h) : ∀ k : Nat, k ≤ 81 → (∀ i : Nat, i < k → h.contains (cardAt (i : Int)) = false → (thr h (cardAt i) : Int) ≤ (btK h k).2 ∧ ((thr h (cardAt i) : Int) = (btK h k).2 → (btK h k).1 ≤ (i : Int))) ∧
    (restK h k ≠ [] → ∃ i : Nat, i < k ∧ h.contains (cardAt (i : Int)) = false ∧ (btK h k).1 = (i : Int) ∧ (btK h k).2 = (thr h (cardAt i) : Int)) ∧ (restK h k = [] → btK h k = (0, -1))
  | 0, _ => ⟨fun i hi => by omega, fun h' => absurd rfl h', fun _ => rfl⟩
  | k + 1, hk => by
    obtain ⟨h1, h2, h3⟩ := btK_best hc k (by omega)
    rw [btK_succ, restK_succ]
    unfold rs1
    cases hm : h.contains (cardAt (k : Int)) with
    | true =>
      simp only [if_true, List.append_nil]
      refine ⟨fun i hi hx => ?_, fun hr => ?_, h3⟩
      · by_cases hik : i = k
        · subst hik; rw [hm] at hx; cases hx
        · exact h1 i (by omega) hx
      · obtain ⟨i, a, b⟩ := h2 hr
        exact ⟨i, by omega, b⟩
    | false =>
      simp only [Bool.false_eq_true, if_false]
      unfold btOp
      by_cases hlt : (btK h k).2 < (thr h (cardAt k) : Int)
      · rw [if_pos hlt]
        refine ⟨fun i hi hx => ?_, fun _ => ⟨k, by omega, hm, by simp only []; rw [num_cardAt (by omega)], rfl⟩, fun h' => by simp at h'⟩
        simp only []
        rw [num_cardAt (by omega)]
        by_cases hik : i = k
        · subst hik; exact ⟨by omega, fun _ => by omega⟩
        · have := (h1 i (by omega) hx).1
          exact ⟨by omega, fun _ => by omega⟩
      · rw [if_neg hlt]
        have hr : restK h k ≠ [] := fun e => by rw [h3 e] at hlt; simp only [] at hlt; omega
        obtain ⟨j, j1, j2, j3, j4⟩ := h2 hr
        refine ⟨fun i hi hx => ?_, fun _ => ⟨j, by omega, j2, j3, j4⟩, fun h' => by simp at h'⟩
        by_cases hik : i = k
        · subst hik; exact ⟨by omega, fun _ => by omega⟩
        · exact h1 i (by omega) hx
end Go.Pl
namespace Go.Pl
open Go Go.Tv Go.RowKit
set_option linter.unusedVariables false

/-! heaps -/
def HeapAt (f h : Nat) (d : List Card) (k : Nat) : Prop := (2 * k + 1 < h → nm d (f + (2 * k + 1)) ≤ nm d (f + k)) ∧ (2 * k + 2 < h → nm d (f + (2 * k + 2)) ≤ nm d (f + k))
def SiftQ (f l h : Nat) (d0 : List Card) (o : Opt (List Card)) : Prop := ∃ d, o = some d ∧ Sw (f + l) (f + h) d0 d ∧ ∀ k, l ≤ k → HeapAt f h d k
structure SiftI (f l h r : Nat) (d0 d : List Card) : Prop where
  lr : l ≤ r
  sw : Sw (f + l) (f + h) d0 d
  hp : ∀ k, l ≤ k → k ≠ r → HeapAt f h d k
  up : ∀ k, l ≤ k → 2 * k + 1 = r ∨ 2 * k + 2 = r → (2 * r + 1 < h → nm d (f + (2 * r + 1)) ≤ nm d (f + k)) ∧ (2 * r + 2 < h → nm d (f + (2 * r + 2)) ≤ nm d (f + k))

theorem sift_J {n : Nat} (hn : BIG ≤ n) {f l h r c : Nat} {d0 d : List Card} (hd0 : AllC d0) (hl : f + h ≤ d0.length) (hl1 : d0.length ≤ 1000000) (I : SiftI f l h r d0 d) (hc : c = 2 * r + 1 ∨ c = 2 * r + 2) (hch : c < h)
    (hmax : (2 * r + 1 < h → nm d (f + (2 * r + 1)) ≤ nm d (f + c)) ∧ (2 * r + 2 < h → nm d (f + (2 * r + 2)) ≤ nm d (f + c))) (self : Int × Int × Int × List Card → Opt (List Card))
    (ih : ∀ e, SiftI f l h c d0 e → SiftQ f l h d0 (self ((h : Int), (f : Int), (c : Int), e))) :
    SiftQ f l h d0 (slices_siftDownCmpFunc_A4_'o_i_compareCards_J1 n self ((h : Int), (f : Int), (r : Int), (c : Int), d)) := by
  have hlen := I.sw.len
  have hC := I.sw.allC hd0
  simp only [slices_siftDownCmpFunc_A4_'o_i_compareCards_J1, lt_eq]
  have e1 : w64 ((f : Int) + (r : Int)) = ((f + r : Nat) : Int) := by rw [w64_id (by omega)]; omega
  have e2 : w64 ((f : Int) + (c : Int)) = ((f + c : Nat) : Int) := by rw [w64_id (by omega)]; omega
  have hlr := I.lr
  rw [e1, e2, ckb_pos (inb_ok (by omega)), ckb_pos (inb_ok (by omega)), toNat_cast, toNat_cast, cmp_at hn hC (by omega) (by omega), ob_some]
  by_cases hlt : nm d (f + r) - nm d (f + c) < 0
  · rw [decide_eq_true hlt, Bool.not_true, br_false, ckb_pos (inb_ok (by omega)), ckb_pos (inb_ok (by omega)), ckb_pos (inb_ok (by omega)), ckb_pos (inb_ok (by rw [List.length_set]; omega))]
    refine ih (swc d (f + r) (f + c)) ⟨by omega, .step I.sw _ _ (by omega) (by omega) (by omega) (by omega) hl, fun k hk hkc => ?_, fun k hk hkc => ?_⟩
    · have h1 : f + r < d.length := by omega
      have h2 : f + c < d.length := by omega
      by_cases hkr : k = r
      · subst hkr
        unfold HeapAt
        rw [nsi h1 h2]
        refine ⟨fun hx => ?_, fun hx => ?_⟩
        · by_cases hx2 : 2 * k + 1 = c
          · rw [hx2, nsj h1 h2]; omega
          · rw [nso h1 h2 (by omega) (by omega)]; exact hmax.1 hx
        · by_cases hx2 : 2 * k + 2 = c
          · rw [hx2, nsj h1 h2]; omega
          · rw [nso h1 h2 (by omega) (by omega)]; exact hmax.2 hx
      · have g := I.hp k hk hkr
        have u := I.up k hk
        unfold HeapAt at g ⊢
        rw [nso h1 h2 (k := f + k) (by omega) (by omega)]
        refine ⟨fun hx => ?_, fun hx => ?_⟩
        · by_cases hkx : 2 * k + 1 = r
          · have u := u (.inl hkx)
            rw [hkx, nsi h1 h2]
            rcases hc with rfl | rfl
            · exact u.1 hch
            · exact u.2 hch
          · rw [nso h1 h2 (by omega) (by omega)]; exact g.1 hx
        · by_cases hkx : 2 * k + 2 = r
          · have u := u (.inr hkx)
            rw [hkx, nsi h1 h2]
            rcases hc with rfl | rfl
            · exact u.1 hch
            · exact u.2 hch
          · rw [nso h1 h2 (by omega) (by omega)]; exact g.2 hx
    · have hkr : k = r := by omega
      subst hkr
      have h1 : f + k < d.length := by omega
      have h2 : f + c < d.length := by omega
      have g := I.hp c (by omega) (by omega)
      unfold HeapAt at g
      rw [nsi h1 h2]
      refine ⟨fun hx => ?_, fun hx => ?_⟩
      · rw [nso h1 h2 (by omega) (by omega)]; exact g.1 hx
      · rw [nso h1 h2 (by omega) (by omega)]; exact g.2 hx
  · rw [decide_eq_false hlt, Bool.not_false, br_true]
    refine ⟨d, rfl, I.sw, fun k hk => ?_⟩
    by_cases hkr : k = r
    · subst hkr; unfold HeapAt; omega
    · exact I.hp k hk hkr
theorem sift_ok {n : Nat} (hn : BIG ≤ n) {f l h : Nat} {d0 : List Card} (hd0 : AllC d0) (hl : f + h ≤ d0.length) (hl1 : d0.length ≤ 1000000) (hl2 : l ≤ 1000000) (pre : ∀ k, l < k → HeapAt f h d0 k) :
    SiftQ f l h d0 (slices_siftDownCmpFunc_A4_'o_i_compareCards n l h f d0) := by
  unfold slices_siftDownCmpFunc_A4_'o_i_compareCards
  refine fx_inv (B := slices_siftDownCmpFunc_A4_'o_i_compareCards_L2 n) (fun s => ∃ (r : Nat) (d : List Card), s = ((h : Int), (f : Int), (r : Int), d) ∧ r ≤ 1000000 ∧ SiftI f l h r d0 d)
    (fun s => 1000001 - s.2.2.1.toNat) (SiftQ f l h d0) ?_ n _ ⟨l, d0, rfl, hl2, Nat.le_refl _, .refl, fun k h1 h2 => pre k (by omega), fun k h1 h2 => by omega⟩ (big_gt hn (by simp only []; omega))
  rintro self _ ⟨r, d, rfl, hr, I⟩ ih
  simp only [slices_siftDownCmpFunc_A4_'o_i_compareCards_L2, lt_eq]
  have hlen := I.sw.len
  have hC := I.sw.allC hd0
  have hlr := I.lr
  have e0 : w64 (2 * (r : Int)) = 2 * (r : Int) := w64_id (by omega)
  have e1 : w64 (2 * (r : Int) + 1) = ((2 * r + 1 : Nat) : Int) := by rw [w64_id (by omega)]; omega
  rw [e0, e1]
  by_cases hch : 2 * r + 1 < h
  · rw [br_neg (decide_eq_false (by omega)), w64_succ (by omega)]
    have ih' : ∀ c e, r < c → c < h → SiftI f l h c d0 e → SiftQ f l h d0 (self ((h : Int), (f : Int), (c : Int), e)) := fun c e h0 h1 h2 => ih _ ⟨c, e, rfl, by omega, h2⟩ (by simp only []; omega)
    by_cases hc2 : 2 * r + 2 < h
    · have e2 : w64 ((f : Int) + ((2 * r + 1 : Nat) : Int)) = ((f + (2 * r + 1) : Nat) : Int) := by rw [w64_id (by omega)]; omega
      have e3 : w64 (((f + (2 * r + 1) : Nat) : Int) + 1) = ((f + (2 * r + 2) : Nat) : Int) := by rw [w64_id (by omega)]; omega
      rw [br_pos (decide_eq_true (by omega)), e2, e3, ckb_pos (inb_ok (by omega)), ckb_pos (inb_ok (by omega)), toNat_cast, toNat_cast, cmp_at hn hC (by omega) (by omega), ob_some, ob_some]
      by_cases hlt : nm d (f + (2 * r + 1)) - nm d (f + (2 * r + 2)) < 0
      · rw [br_pos (decide_eq_true hlt)]
        exact sift_J hn hd0 hl hl1 I (.inr rfl) hc2 (by omega) self fun e he => ih' _ e (by omega) hc2 he
      · rw [br_neg (decide_eq_false hlt)]
        exact sift_J hn hd0 hl hl1 I (.inl rfl) hch (by omega) self fun e he => ih' _ e (by omega) hch he
    · rw [br_neg (decide_eq_false (by omega)), ob_some, br_false]
      exact sift_J hn hd0 hl hl1 I (.inl rfl) hch (by omega) self fun e he => ih' _ e (by omega) hch he
  · rw [br_pos (decide_eq_true (by omega))]
    refine ⟨d, rfl, I.sw, fun k hk => ?_⟩
    by_cases hkr : k = r
    · subst hkr; unfold HeapAt; omega
    · exact I.hp k hk hkr
theorem heap_max {f h : Nat} {d : List Card} (H : ∀ k, HeapAt f h d k) : ∀ m k, k ≤ m → k < h → nm d (f + k) ≤ nm d f := by
  intro m
  induction m with
  | zero => intro k hk _; have : k = 0 := by omega
            subst this; exact Int.le_refl _
  | succ m ih =>
    intro k hk hh
    by_cases h0 : k = 0
    · subst h0; exact Int.le_refl _
    · obtain ⟨p, hp⟩ : ∃ p, k = 2 * p + 1 ∨ k = 2 * p + 2 := ⟨(k - 1) / 2, by omega⟩
      have h1 := ih p (by omega) (by omega)
      have h2 := H p
      unfold HeapAt at h2
      rcases hp with rfl | rfl
      · have := h2.1 hh; omega
      · have := h2.2 hh; omega
theorem heap_ok {n : Nat} (hn : BIG ≤ n) {a b : Nat} {d0 : List Card} (hd0 : AllC d0) (hb : b ≤ d0.length) (hl : d0.length ≤ 1000000) (hab : a < b) :
    Post a b d0 (slices_heapSortCmpFunc_A4_'o_i_compareCards n a b d0) := by
  unfold slices_heapSortCmpFunc_A4_'o_i_compareCards
  simp only [lt_eq]
  obtain ⟨h, rfl⟩ : ∃ h, b = a + h := ⟨b - a, by omega⟩
  have e1 : w64 (((a + h : Nat) : Int) - (a : Int)) = (h : Int) := by rw [w64_id (by omega)]; omega
  have e2 : w64 ((h : Int) - 1) = ((h - 1 : Nat) : Int) := w64_pred (by omega) (by omega)
  have e3 : Int.tdiv ((h - 1 : Nat) : Int) 2 = (((h - 1) / 2 : Nat) : Int) := rfl
  rw [e1, e2, e3, w64_id (by omega)]
  -- building
  refine fx_inv (B := slices_heapSortCmpFunc_A4_'o_i_compareCards_L2 n) (fun s => ∃ (m : Nat) (d : List Card), s = ((a : Int), (0 : Int), (h : Int), (m : Int) - 1, d) ∧ m ≤ h ∧ Sw a (a + h) d0 d ∧ ∀ k, m ≤ k → HeapAt a h d k)
    (fun s => (s.2.2.2.1 + 1).toNat) (Post a (a + h) d0) ?_ n _ ⟨(h - 1) / 2 + 1, d0, by simp, by omega, .refl, fun k hk => ⟨fun h1 => by omega, fun h1 => by omega⟩⟩ (big_gt hn (by simp only []; omega))
  rintro self _ ⟨m, d, rfl, hm, hsw, hp⟩ ih
  have hlen := hsw.len
  have hC := hsw.allC hd0
  simp only [slices_heapSortCmpFunc_A4_'o_i_compareCards_L2]
  by_cases h0 : m = 0
  · subst h0
    rw [br_neg (decide_eq_false (by omega)), lt_eq, e2]
    -- popping
    refine fx_inv (B := slices_heapSortCmpFunc_A4_'o_i_compareCards_L1 n) (fun s => ∃ (m : Nat) (d : List Card), s = ((a : Int), (0 : Int), (m : Int) - 1, d) ∧ m ≤ h ∧ Sw a (a + h) d0 d ∧ (∀ k, HeapAt a m d k) ∧ ∀ p q, a ≤ p → p < q → a + m ≤ q → q < a + h → nm d p ≤ nm d q)
      (fun s => (s.2.2.1 + 1).toNat) (Post a (a + h) d0) ?_ n _ ⟨h, d, by simp; omega, Nat.le_refl _, hsw, fun k => hp k (Nat.zero_le _), fun p q _ _ _ _ => by omega⟩ (big_gt hn (by simp only []; omega))
    rintro self2 _ ⟨m, d, rfl, hm, hsw, hp, hs⟩ ih2
    have hlen := hsw.len
    have hC := hsw.allC hd0
    simp only [slices_heapSortCmpFunc_A4_'o_i_compareCards_L1]
    by_cases h0 : m = 0
    · subst h0
      rw [br_neg (decide_eq_false (by omega))]
      exact ⟨d, rfl, hsw, fun p q h1 h2 h3 => hs p q h1 h2 (by omega) h3⟩
    · obtain ⟨i, rfl⟩ : ∃ i, m = i + 1 := ⟨m - 1, by omega⟩
      have e4 : (((i + 1 : Nat) : Int) - 1) = (i : Int) := by omega
      have e5 : w64 ((a : Int) + (i : Int)) = ((a + i : Nat) : Int) := by rw [w64_id (by omega)]; omega
      rw [e4, br_pos (decide_eq_true (by omega))]
      simp only [lt_eq]
      rw [e5, ckb_pos (inb_ok (by omega)), ckb_pos (inb_ok (by omega)), ckb_pos (inb_ok (by omega)), ckb_pos (inb_ok (by rw [List.length_set]; omega)), toNat_cast, toNat_cast]
      show Post a (a + h) d0 (ob (slices_siftDownCmpFunc_A4_'o_i_compareCards n ((0 : Nat) : Int) i a (swc d a (a + i))) _)
      have hsw1 : Sw a (a + h) d0 (swc d a (a + i)) := .step hsw _ _ (by omega) (by omega) (by omega) (by omega) hb
      have hlen1 := hsw1.len
      obtain ⟨d2, g1, g2, g3⟩ := sift_ok hn (f := a) (l := 0) (h := i) (d0 := swc d a (a + i)) (hsw1.allC hd0) (by omega) (by omega) (by omega) fun k hk => by
        have o := fun x => nm_swp_or (d := d) (i := a) (j := a + i) (by omega) (by omega) (a + x)
        have o0 := o k; have o1 := o (2 * k + 1); have o2 := o (2 * k + 2)
        have g := hp k
        unfold HeapAt at g ⊢
        omega
      rw [g1, ob_some]
      refine ih2 _ ⟨i, d2, ?_, by omega, hsw1.trans (g2.mono (by omega) (by omega) (by omega)), fun k => g3 k (Nat.zero_le _), fun p q h1 h2 h3 h4 => ?_⟩ (by simp only []; rw [w64_id (by omega)]; omega)
      · rw [w64_id (by omega)]
      · have oq := nm_swp_or (d := d) (i := a) (j := a + i) (by omega) (by omega) q
        have hq : nm d2 q = nm (swc d a (a + i)) q := g2.out (.inr (by omega))
        rw [hq]
        by_cases hp1 : p < a + i
        · refine g2.all (P := fun x => x ≤ nm (swc d a (a + i)) q) (fun k hk1 hk2 => ?_) p (by omega) hp1
          have ok := nm_swp_or (d := d) (i := a) (j := a + i) (by omega) (by omega) k
          obtain ⟨z, rfl⟩ : ∃ z, k = a + z := ⟨k - a, by omega⟩
          have m1 := heap_max hp (i + 1) z (by omega) (by omega)
          have m2 := heap_max hp (i + 1) i (by omega) (by omega)
          have s1 := hs (a + z) q (by omega) (by omega)
          have s2 := hs (a + i) q (by omega)
          have s3 := hs a q (by omega)
          omega
        · have hp2 : nm d2 p = nm (swc d a (a + i)) p := g2.out (.inr (by omega))
          rw [hp2]
          have op := nm_swp_or (d := d) (i := a) (j := a + i) (by omega) (by omega) p
          have s1 := hs p q h1 h2
          have s3 := hs a q (by omega)
          omega
  · obtain ⟨i, rfl⟩ : ∃ i, m = i + 1 := ⟨m - 1, by omega⟩
    have e4 : (((i + 1 : Nat) : Int) - 1) = (i : Int) := by omega
    rw [e4, br_pos (decide_eq_true (by omega))]
    obtain ⟨d2, g1, g2, g3⟩ := sift_ok hn (f := a) (l := i) (h := h) (d0 := d) hC (by omega) (by omega) (by omega) fun k hk => hp k (by omega)
    rw [g1, ob_some, lt_eq]
    refine ih _ ⟨i, d2, ?_, by omega, hsw.trans (g2.mono (by omega) (by omega) (by omega)), g3⟩ (by simp only []; rw [w64_id (by omega)]; omega)
    rw [w64_id (by omega)]
end Go.Pl

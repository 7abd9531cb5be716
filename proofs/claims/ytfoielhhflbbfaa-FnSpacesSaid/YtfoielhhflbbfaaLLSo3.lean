/- Plain laws: LSo3. -/
import Derived.Test.YtfoielhhflbbfaaLLSo2
set_option linter.unusedVariables false
set_option linter.unusedSimpArgs false
namespace Go.Pl
open Go Go.Tv Go.RowKit
set_option linter.unusedVariables false
theorem reverse_ok {n : Nat} (hn : BIG ≤ n) {a b : Nat} {d0 : List Card} (hb : b ≤ d0.length) (hl : d0.length ≤ 1000000) (hab : a < b) :
    ∃ d, slices_reverseRangeCmpFunc_A4_'o_i_compareCards n a b d0 = some d ∧ Sw a b d0 d := by
  unfold slices_reverseRangeCmpFunc_A4_'o_i_compareCards
  rw [lt_eq, w64_pred (by omega) (by omega)]
  refine fx_inv (B := slices_reverseRangeCmpFunc_A4_'o_i_compareCards_L1 n) (fun s => ∃ (i j : Nat) (d : List Card), s = ((i : Int), (j : Int), d) ∧ a ≤ i ∧ j < b ∧ Sw a b d0 d)
    (fun s => (s.2.1 + 1).toNat) (fun o => ∃ d, o = some d ∧ Sw a b d0 d) ?_ n _ ⟨a, b - 1, d0, rfl, Nat.le_refl _, by omega, .refl⟩ (big_gt hn (by simp only []; omega))
  rintro self _ ⟨i, j, d, rfl, hi, hj, hsw⟩ ih
  have hlen := hsw.len
  simp only [slices_reverseRangeCmpFunc_A4_'o_i_compareCards_L1, lt_eq]
  by_cases hij : i < j
  · rw [br_pos (decide_eq_true (by omega)), ckb_pos (inb_ok (by omega)), ckb_pos (inb_ok (by omega)), ckb_pos (inb_ok (by omega)), ckb_pos (inb_ok (by rw [List.length_set]; omega)), w64_succ (by omega), w64_pred (by omega) (by omega)]
    exact ih _ ⟨i + 1, j - 1, swc d i j, rfl, by omega, by omega, .step hsw _ _ (by omega) (by omega) (by omega) (by omega) hb⟩ (by simp only []; omega)
  · rw [br_neg (decide_eq_false (by omega))]
    exact ⟨d, rfl, hsw⟩
theorem order2_ok {n : Nat} (hn : BIG ≤ n) {d : List Card} (hd : AllC d) {a b : Nat} (ha : a < d.length) (hb : b < d.length) (s : Int) :
    ∃ x y : Nat, ∃ s', slices_order2CmpFunc_A4_'lp_i_compareCards n d a b s = some ((x : Int), (y : Int), s') ∧ (x = a ∨ x = b) ∧ (y = a ∨ y = b) := by
  unfold slices_order2CmpFunc_A4_'lp_i_compareCards
  rw [ckb_pos (inb_ok hb), ckb_pos (inb_ok ha), toNat_cast, toNat_cast, cmp_at hn hd hb ha, ob_some]
  by_cases h : nm d b - nm d a < 0
  · rw [br_pos (decide_eq_true h)]
    exact ⟨b, a, _, rfl, .inr rfl, .inl rfl⟩
  · rw [br_neg (decide_eq_false h)]
    exact ⟨a, b, _, rfl, .inl rfl, .inr rfl⟩
theorem median_ok {n : Nat} (hn : BIG ≤ n) {d : List Card} (hd : AllC d) {a b c : Nat} (ha : a < d.length) (hb : b < d.length) (hc : c < d.length) (s : Int) :
    ∃ x : Nat, ∃ s', slices_medianCmpFunc_A4_'lp_i_compareCards n d a b c s = some ((x : Int), s') ∧ (x = a ∨ x = b ∨ x = c) := by
  unfold slices_medianCmpFunc_A4_'lp_i_compareCards
  obtain ⟨x, y, s1, e1, hx, hy⟩ := order2_ok hn hd ha hb s
  rw [e1, ob_some]
  obtain ⟨x2, y2, s2, e2, hx2, hy2⟩ := order2_ok hn hd (a := y) (b := c) (by omega) hc s1
  rw [e2, ob_some]
  obtain ⟨x3, y3, s3, e3, hx3, hy3⟩ := order2_ok hn hd (a := x) (b := x2) (by omega) (by omega) s2
  rw [e3, ob_some]
  exact ⟨y3, s3, rfl, by omega⟩
theorem medianA_ok {n : Nat} (hn : BIG ≤ n) {d : List Card} (hd : AllC d) {a : Nat} (h1 : 1 ≤ a) (ha : a + 1 < d.length) (hl : d.length ≤ 1000000) (s : Int) :
    ∃ x : Nat, ∃ s', slices_medianAdjacentCmpFunc_A4_'lp_i_compareCards n d a s = some ((x : Int), s') ∧ a - 1 ≤ x ∧ x ≤ a + 1 := by
  unfold slices_medianAdjacentCmpFunc_A4_'lp_i_compareCards
  simp only [lt_eq]
  rw [w64_pred h1 (by omega), w64_succ (by omega)]
  obtain ⟨x, s', e, hx⟩ := median_ok hn hd (a := a - 1) (b := a) (c := a + 1) (by omega) (by omega) ha s
  rw [e, ob_some]
  exact ⟨x, s', rfl, by omega, by omega⟩
theorem pivot_J1 {n : Nat} (p : Nat) (s : Int) : ∃ h, slices_choosePivotCmpFunc_A4_'l_i_compareCards_J1 n ((p : Int), s) = some ((p : Int), h) := by
  unfold slices_choosePivotCmpFunc_A4_'l_i_compareCards_J1
  rw [br_dec, br_dec]
  split
  · exact ⟨_, rfl⟩
  · split <;> exact ⟨_, rfl⟩
theorem pivot_ok {n : Nat} (hn : BIG ≤ n) {d : List Card} (hd : AllC d) {a b : Nat} (hb : b ≤ d.length) (hab : a + 8 ≤ b) (hl : d.length ≤ 1000000) :
    ∃ p : Nat, ∃ h, slices_choosePivotCmpFunc_A4_'l_i_compareCards n d a b = some ((p : Int), h) ∧ a ≤ p ∧ p < b := by
  unfold slices_choosePivotCmpFunc_A4_'l_i_compareCards
  obtain ⟨l, rfl⟩ : ∃ l, b = a + l := ⟨b - a, by omega⟩
  have e1 : w64 (((a + l : Nat) : Int) - (a : Int)) = (l : Int) := by rw [w64_id (by omega)]; omega
  have e2 : w64 (Int.tdiv (l : Int) 4) = ((l / 4 : Nat) : Int) := by
    have : Int.tdiv (l : Int) 4 = ((l / 4 : Nat) : Int) := rfl
    rw [this, w64_id (by omega)]
  have e3 : ∀ k : Nat, k ≤ 3 → w64 ((a : Int) + w64 (((l / 4 : Nat) : Int) * (k : Int))) = ((a + l / 4 * k : Nat) : Int) := fun k hk => by
    have h : (((l / 4 : Nat) : Int) * (k : Int)) = ((l / 4 * k : Nat) : Int) := by simp
    have h2 : l / 4 * k ≤ l / 4 * 3 := Nat.mul_le_mul_left _ hk
    rw [h, w64_id (x := ((l / 4 * k : Nat) : Int)) (by omega), w64_id (by omega)]; omega
  have f1 := e3 1 (by omega); have f2 := e3 2 (by omega); have f3 := e3 3 (by omega)
  simp only [lt_eq, e1, e2]
  rw [show w64 ((a : Int) + w64 (((l / 4 : Nat) : Int) * 1)) = ((a + l / 4 * 1 : Nat) : Int) from f1, show w64 ((a : Int) + w64 (((l / 4 : Nat) : Int) * 2)) = ((a + l / 4 * 2 : Nat) : Int) from f2, show w64 ((a : Int) + w64 (((l / 4 : Nat) : Int) * 3)) = ((a + l / 4 * 3 : Nat) : Int) from f3]
  have J2 : ∀ (x y z : Nat) (s : Int), a ≤ x → x < a + l → a ≤ y → y < a + l → a ≤ z → z < a + l → ∃ p : Nat, ∃ h, slices_choosePivotCmpFunc_A4_'l_i_compareCards_J2 n (d, (x : Int), (y : Int), (z : Int), s) = some ((p : Int), h) ∧ a ≤ p ∧ p < a + l := fun x y z s h1 h2 h3 h4 h5 h6 => by
    unfold slices_choosePivotCmpFunc_A4_'l_i_compareCards_J2
    obtain ⟨p, s', e, hp⟩ := median_ok hn hd (a := x) (b := y) (c := z) (by omega) (by omega) (by omega) s
    simp only []
    rw [e, ob_some]
    obtain ⟨h, e4⟩ := pivot_J1 (n := n) p s'
    exact ⟨p, h, e4, by omega, by omega⟩
  rw [br_pos (decide_eq_true (by omega)), br_dec]
  split
  · obtain ⟨x, s1, g1, hx⟩ := medianA_ok hn hd (a := a + l / 4 * 1) (by omega) (by omega) hl 0
    rw [g1, ob_some]
    obtain ⟨y, s2, g2, hy⟩ := medianA_ok hn hd (a := a + l / 4 * 2) (by omega) (by omega) hl s1
    rw [g2, ob_some]
    obtain ⟨z, s3, g3, hz⟩ := medianA_ok hn hd (a := a + l / 4 * 3) (by omega) (by omega) hl s2
    rw [g3, ob_some]
    exact J2 x y z s3 (by omega) (by omega) (by omega) (by omega) (by omega) (by omega)
  · exact J2 _ _ _ 0 (by omega) (by omega) (by omega) (by omega) (by omega) (by omega)
noncomputable def okLenN (k : Nat) : Bool := (List.range 193).all fun m => match math_bits_Len k (IntKind.wrap .u64 ((m + 8 : Nat) : Int)) with
  | some r => decide (0 ≤ r) && (match shlI .u64 1 r with
    | x => decide (1 ≤ x) && decide (x ≤ 2 * ((m + 8 : Nat) : Int)))
  | none => false
noncomputable def okLen0 (k : Nat) : Bool := (List.range 201).all fun m => match math_bits_Len k (IntKind.wrap .u64 (m : Int)) with
  | some r => decide (0 ≤ r) && decide (r ≤ 100)
  | none => false
theorem okLenN_ok (k : Nat) : okLenN k = true := by kernel_rfl
theorem okLen0_ok (k : Nat) : okLen0 k = true := by kernel_rfl
theorem pow2_ok (n : Nat) {m : Nat} (h1 : 8 ≤ m) (h2 : m ≤ 200) : ∃ x : Int, slices_nextPowerOfTwo n (m : Int) = some x ∧ 1 ≤ x ∧ x ≤ 2 * (m : Int) := by
  have := List.all_eq_true.1 (okLenN_ok n) (m - 8) (List.mem_range.2 (by omega))
  rw [show m - 8 + 8 = m by omega] at this
  unfold slices_nextPowerOfTwo
  rw [lt_eq]
  cases hr : math_bits_Len n (IntKind.wrap .u64 (m : Int)) with
  | none => rw [hr] at this; cases this
  | some r =>
    rw [hr] at this
    simp only [Bool.and_eq_true] at this
    rw [ob_some, ckb_pos (show nneg r = true from this.1), lt_eq]
    exact ⟨_, rfl, of_decide_eq_true this.2.1, of_decide_eq_true this.2.2⟩
theorem bitsLen_ok (n : Nat) {m : Nat} (h2 : m ≤ 200) : ∃ r : Nat, math_bits_Len n (IntKind.wrap .u64 (m : Int)) = some (r : Int) ∧ r ≤ 100 := by
  have := List.all_eq_true.1 (okLen0_ok n) m (List.mem_range.2 (by omega))
  cases hr : math_bits_Len n (IntKind.wrap .u64 (m : Int)) with
  | none => rw [hr] at this; cases this
  | some r =>
    rw [hr] at this
    simp only [Bool.and_eq_true, decide_eq_true_eq] at this
    exact ⟨r.toNat, by simp; omega, by omega⟩
theorem next_tot (n : Nat) (x : Int) : ∃ r, __slices_xorshift__Next'p n x = some r := ⟨_, rfl⟩
theorem and_le {x y : Int} (h0 : 0 ≤ y) (h1 : y < 1000000) : 0 ≤ bits .and .u64 x y ∧ bits .and .u64 x y ≤ y := by
  have h : (BitVec.ofInt 64 x &&& BitVec.ofInt 64 y).toNat ≤ y.toNat := by
    rw [BitVec.toNat_and]
    refine Nat.le_trans Nat.and_le_right ?_
    rw [BitVec.toNat_ofInt]; omega
  have e : bits .and .u64 x y = IntKind.u64.wrap ((BitVec.ofInt 64 x &&& BitVec.ofInt 64 y).toNat : Int) := rfl
  rw [e]
  generalize (BitVec.ofInt 64 x &&& BitVec.ofInt 64 y).toNat = q at h
  simp only [IntKind.wrap, IntKind.bits, IntKind.signed]
  simp
  omega
theorem wu64_id {x : Int} (h : 0 ≤ x ∧ x < 18446744073709551616) : IntKind.wrap .u64 x = x := by
  simp only [IntKind.wrap, IntKind.bits, IntKind.signed]
  simp
  omega
theorem break_J {n : Nat} {a b l : Nat} {d0 d : List Card} (hb : b ≤ d0.length) (hl : d0.length ≤ 1000000) (hbl : b = a + l) (hsw : Sw a b d0 d) {i k : Nat} (x6 r : Int) (hi : a ≤ i) (hib : i < b) (hk : k < l)
    (self : Int × Int × Int × Int × List Card × Int → Opt (List Card)) (Q : Opt (List Card) → Prop) (ih : Q (self ((a : Int), (l : Int), x6, ((i + 1 : Nat) : Int), swc d i (a + k), r))) :
    Q (slices_breakPatternsCmpFunc_A4_'o_i_compareCards_J1 n self ((a : Int), (l : Int), x6, (i : Int), (k : Int), d, r)) := by
  have hlen := hsw.len
  simp only [slices_breakPatternsCmpFunc_A4_'o_i_compareCards_J1, lt_eq]
  have e : w64 ((a : Int) + (k : Int)) = ((a + k : Nat) : Int) := by rw [w64_id (by omega)]; omega
  rw [e, ckb_pos (inb_ok (by omega)), ckb_pos (inb_ok (by omega)), ckb_pos (inb_ok (by omega)), ckb_pos (inb_ok (by rw [List.length_set]; omega)), w64_succ (by omega)]
  exact ih
theorem break_ok {n : Nat} (hn : BIG ≤ n) {a b : Nat} {d0 : List Card} (hb : b ≤ d0.length) (hl : d0.length ≤ 200) (hab : a + 8 ≤ b) :
    ∃ d, slices_breakPatternsCmpFunc_A4_'o_i_compareCards n a b d0 = some d ∧ Sw a b d0 d := by
  unfold slices_breakPatternsCmpFunc_A4_'o_i_compareCards
  obtain ⟨l, rfl⟩ : ∃ l, b = a + l := ⟨b - a, by omega⟩
  have e1 : w64 (((a + l : Nat) : Int) - (a : Int)) = (l : Int) := by rw [w64_id (by omega)]; omega
  have e2 : w64 (Int.tdiv (l : Int) 4) = ((l / 4 : Nat) : Int) := by
    have : Int.tdiv (l : Int) 4 = ((l / 4 : Nat) : Int) := rfl
    rw [this, w64_id (by omega)]
  obtain ⟨x6, g6, h6, h6'⟩ := pow2_ok n (m := l) (by omega) (by omega)
  simp only [lt_eq, e1, e2]
  have e3 : w64 (((l / 4 : Nat) : Int) * 2) = ((l / 4 * 2 : Nat) : Int) := by rw [w64_id (by omega)]; omega
  have e4 : w64 ((a : Int) + ((l / 4 * 2 : Nat) : Int)) = ((a + l / 4 * 2 : Nat) : Int) := by rw [w64_id (by omega)]; omega
  rw [br_pos (decide_eq_true (by omega)), g6, ob_some, e3, e4, w64_pred (by omega) (by omega)]
  refine fx_inv (B := slices_breakPatternsCmpFunc_A4_'o_i_compareCards_L2 n) (fun s => ∃ (i : Nat) (d : List Card) (r : Int), s = ((a : Int), (l : Int), x6, (i : Int), d, r) ∧ a + l / 4 * 2 - 1 ≤ i ∧ Sw a (a + l) d0 d)
    (fun s => 1000 - s.2.2.2.1.toNat) (fun o => ∃ d, o = some d ∧ Sw a (a + l) d0 d) ?_ n _ ⟨a + l / 4 * 2 - 1, d0, _, rfl, Nat.le_refl _, .refl⟩ (big_gt hn (by simp only []; omega))
  rintro self _ ⟨i, d, r, rfl, hi, hsw⟩ ih
  simp only [slices_breakPatternsCmpFunc_A4_'o_i_compareCards_L2, lt_eq, e2, e3, e4]
  rw [w64_succ (by omega)]
  by_cases hc : i ≤ a + l / 4 * 2 + 1
  · rw [br_pos (decide_eq_true (by omega))]
    obtain ⟨r2, hr2⟩ := next_tot n r
    rw [hr2, ob_some, wu64_id (x := x6 - 1) (by omega)]
    have hand := and_le (x := r2.1) (y := x6 - 1) (by omega) (by omega)
    obtain ⟨z, hz⟩ : ∃ z : Nat, bits .and .u64 r2.1 (x6 - 1) = (z : Int) := ⟨(bits .and .u64 r2.1 (x6 - 1)).toNat, by omega⟩
    rw [hz] at hand ⊢
    rw [w64_id (x := (z : Int)) (by omega), br_dec]
    split
    · have e5 : w64 ((z : Int) - (l : Int)) = ((z - l : Nat) : Int) := by rw [w64_id (by omega)]; omega
      rw [e5]
      exact break_J (a := a) (i := i) (k := z - l) (by omega) (by omega) rfl hsw x6 r2.2 (by omega) (by omega) (by omega) self (fun o => ∃ d, o = some d ∧ Sw a (a + l) d0 d) (ih _ ⟨i + 1, _, r2.2, rfl, by omega, .step hsw i (a + (z - l)) (by omega) (by omega) (by omega) (by omega) (by omega)⟩ (by simp only []; omega))
    · exact break_J (a := a) (i := i) (k := z) (by omega) (by omega) rfl hsw x6 r2.2 (by omega) (by omega) (by omega) self (fun o => ∃ d, o = some d ∧ Sw a (a + l) d0 d) (ih _ ⟨i + 1, _, r2.2, rfl, by omega, .step hsw i (a + z) (by omega) (by omega) (by omega) (by omega) (by omega)⟩ (by simp only []; omega))
  · rw [br_neg (decide_eq_false (by omega))]
    exact ⟨d, rfl, hsw⟩
end Go.Pl

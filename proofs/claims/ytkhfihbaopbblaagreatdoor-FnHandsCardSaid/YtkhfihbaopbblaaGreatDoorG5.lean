/- Plain laws: LSo2, LSo3, LSo4. -/
import Derived.Test.YtkhfihbaopbblaaGreatDoorG2
set_option linter.unusedVariables false
set_option linter.unusedSimpArgs false
namespace Go.Pl
open Go Go.Tv Go.RowKit
set_option linter.unusedVariables false
def HeapAt (f h : Nat) (d : List Card) (k : Nat) : Prop := (2 * k + 1 < h → nm d (f + (2 * k + 1)) ≤ nm d (f + k)) ∧ (2 * k + 2 < h → nm d (f + (2 * k + 2)) ≤ nm d (f + k))
def SiftQ (f l h : Nat) (d0 : List Card) (o : Opt (List Card)) : Prop := ∃ d, o = some d ∧ Sw (f + l) (f + h) d0 d ∧ ∀ k, l ≤ k → HeapAt f h d k
structure SiftI (f l h r : Nat) (d0 d : List Card) : Prop where
  lr : l ≤ r
  sw : Sw (f + l) (f + h) d0 d
  hp : ∀ k, l ≤ k → k ≠ r → HeapAt f h d k
  up : ∀ k, l ≤ k → 2 * k + 1 = r ∨ 2 * k + 2 = r → (2 * r + 1 < h → nm d (f + (2 * r + 1)) ≤ nm d (f + k)) ∧ (2 * r + 2 < h → nm d (f + (2 * r + 2)) ≤ nm d (f + k))
theorem sift_J {n : Nat} (hn : BIG ≤ n) {f l h r c : Nat} {d0 d : List Card} (hd0 : AllC d0) (hl : f + h ≤ d0.length) (hl1 : d0.length ≤ 1000000) (I : SiftI f l h r d0 d) (hc : c = 2 * r + 1 ∨ c = 2 * r + 2) (hch : c < h)
    (hmax : (2 * r + 1 < h → nm d (f + (2 * r + 1)) ≤ nm d (f + c)) ∧ (2 * r + 2 < h → nm d (f + (2 * r + 2)) ≤ nm d (f + c))) (self : Int × Int × Int × List Card → Opt (List Card))
    (ih : ∀ e, SiftI f l h c d0 e → SiftQ f l h d0 (self ((h : Int), (f : Int), (c : Int), e))) :
    SiftQ f l h d0 (slices_siftDownCmpFunc_A4_'o_i_compareCards_J1 n self ((h : Int), (f : Int), (r : Int), (c : Int), d)) := by
  have hlen := I.sw.len
  have hC := I.sw.allC hd0
  simp only [slices_siftDownCmpFunc_A4_'o_i_compareCards_J1, lt_eq]
  have e1 : w64 ((f : Int) + (r : Int)) = ((f + r : Nat) : Int) := by rw [w64_id (by omega)]; omega
  have e2 : w64 ((f : Int) + (c : Int)) = ((f + c : Nat) : Int) := by rw [w64_id (by omega)]; omega
  have hlr := I.lr
  rw [e1, e2, ckb_pos (inb_ok (by omega)), ckb_pos (inb_ok (by omega)), toNat_cast, toNat_cast, cmp_at hn hC (by omega) (by omega), ob_some]
  by_cases hlt : nm d (f + r) - nm d (f + c) < 0
  · rw [decide_eq_true hlt, Bool.not_true, br_false, ckb_pos (inb_ok (by omega)), ckb_pos (inb_ok (by omega)), ckb_pos (inb_ok (by omega)), ckb_pos (inb_ok (by rw [List.length_set]; omega))]
    refine ih (swc d (f + r) (f + c)) ⟨by omega, .step I.sw _ _ (by omega) (by omega) (by omega) (by omega) hl, fun k hk hkc => ?_, fun k hk hkc => ?_⟩
    · have h1 : f + r < d.length := by omega
      have h2 : f + c < d.length := by omega
      by_cases hkr : k = r
      · subst hkr
        unfold HeapAt
        rw [nsi h1 h2]
        refine ⟨fun hx => ?_, fun hx => ?_⟩
        · by_cases hx2 : 2 * k + 1 = c
          · rw [hx2, nsj h1 h2]; omega
          · rw [nso h1 h2 (by omega) (by omega)]; exact hmax.1 hx
        · by_cases hx2 : 2 * k + 2 = c
          · rw [hx2, nsj h1 h2]; omega
          · rw [nso h1 h2 (by omega) (by omega)]; exact hmax.2 hx
      · have g := I.hp k hk hkr
        have u := I.up k hk
        unfold HeapAt at g ⊢
        rw [nso h1 h2 (k := f + k) (by omega) (by omega)]
        refine ⟨fun hx => ?_, fun hx => ?_⟩
        · by_cases hkx : 2 * k + 1 = r
          · have u := u (.inl hkx)
            rw [hkx, nsi h1 h2]
            rcases hc with rfl | rfl
            · exact u.1 hch
            · exact u.2 hch
          · rw [nso h1 h2 (by omega) (by omega)]; exact g.1 hx
        · by_cases hkx : 2 * k + 2 = r
          · have u := u (.inr hkx)
            rw [hkx, nsi h1 h2]
            rcases hc with rfl | rfl
            · exact u.1 hch
            · exact u.2 hch
          · rw [nso h1 h2 (by omega) (by omega)]; exact g.2 hx
    · have hkr : k = r := by omega
      subst hkr
      have h1 : f + k < d.length := by omega
      have h2 : f + c < d.length := by omega
      have g := I.hp c (by omega) (by omega)
      unfold HeapAt at g
      rw [nsi h1 h2]
      refine ⟨fun hx => ?_, fun hx => ?_⟩
      · rw [nso h1 h2 (by omega) (by omega)]; exact g.1 hx
      · rw [nso h1 h2 (by omega) (by omega)]; exact g.2 hx
  · rw [decide_eq_false hlt, Bool.not_false, br_true]
    refine ⟨d, rfl, I.sw, fun k hk => ?_⟩
    by_cases hkr : k = r
    · subst hkr; unfold HeapAt; omega
    · exact I.hp k hk hkr
theorem sift_ok {n : Nat} (hn : BIG ≤ n) {f l h : Nat} {d0 : List Card} (hd0 : AllC d0) (hl : f + h ≤ d0.length) (hl1 : d0.length ≤ 1000000) (hl2 : l ≤ 1000000) (pre : ∀ k, l < k → HeapAt f h d0 k) :
    SiftQ f l h d0 (slices_siftDownCmpFunc_A4_'o_i_compareCards n l h f d0) := by
  unfold slices_siftDownCmpFunc_A4_'o_i_compareCards
  refine fx_inv (B := slices_siftDownCmpFunc_A4_'o_i_compareCards_L2 n) (fun s => ∃ (r : Nat) (d : List Card), s = ((h : Int), (f : Int), (r : Int), d) ∧ r ≤ 1000000 ∧ SiftI f l h r d0 d)
    (fun s => 1000001 - s.2.2.1.toNat) (SiftQ f l h d0) ?_ n _ ⟨l, d0, rfl, hl2, Nat.le_refl _, .refl, fun k h1 h2 => pre k (by omega), fun k h1 h2 => by omega⟩ (big_gt hn (by simp only []; omega))
  rintro self _ ⟨r, d, rfl, hr, I⟩ ih
  simp only [slices_siftDownCmpFunc_A4_'o_i_compareCards_L2, lt_eq]
  have hlen := I.sw.len
  have hC := I.sw.allC hd0
  have hlr := I.lr
  have e0 : w64 (2 * (r : Int)) = 2 * (r : Int) := w64_id (by omega)
  have e1 : w64 (2 * (r : Int) + 1) = ((2 * r + 1 : Nat) : Int) := by rw [w64_id (by omega)]; omega
  rw [e0, e1]
  by_cases hch : 2 * r + 1 < h
  · rw [br_neg (decide_eq_false (by omega)), w64_succ (by omega)]
    have ih' : ∀ c e, r < c → c < h → SiftI f l h c d0 e → SiftQ f l h d0 (self ((h : Int), (f : Int), (c : Int), e)) := fun c e h0 h1 h2 => ih _ ⟨c, e, rfl, by omega, h2⟩ (by simp only []; omega)
    by_cases hc2 : 2 * r + 2 < h
    · have e2 : w64 ((f : Int) + ((2 * r + 1 : Nat) : Int)) = ((f + (2 * r + 1) : Nat) : Int) := by rw [w64_id (by omega)]; omega
      have e3 : w64 (((f + (2 * r + 1) : Nat) : Int) + 1) = ((f + (2 * r + 2) : Nat) : Int) := by rw [w64_id (by omega)]; omega
      rw [br_pos (decide_eq_true (by omega)), e2, e3, ckb_pos (inb_ok (by omega)), ckb_pos (inb_ok (by omega)), toNat_cast, toNat_cast, cmp_at hn hC (by omega) (by omega), ob_some, ob_some]
      by_cases hlt : nm d (f + (2 * r + 1)) - nm d (f + (2 * r + 2)) < 0
      · rw [br_pos (decide_eq_true hlt)]
        exact sift_J hn hd0 hl hl1 I (.inr rfl) hc2 (by omega) self fun e he => ih' _ e (by omega) hc2 he
      · rw [br_neg (decide_eq_false hlt)]
        exact sift_J hn hd0 hl hl1 I (.inl rfl) hch (by omega) self fun e he => ih' _ e (by omega) hch he
    · rw [br_neg (decide_eq_false (by omega)), ob_some, br_false]
      exact sift_J hn hd0 hl hl1 I (.inl rfl) hch (by omega) self fun e he => ih' _ e (by omega) hch he
  · rw [br_pos (decide_eq_true (by omega))]
    refine ⟨d, rfl, I.sw, fun k hk => ?_⟩
    by_cases hkr : k = r
    · subst hkr; unfold HeapAt; omega
    · exact I.hp k hk hkr
theorem heap_max {f h : Nat} {d : List Card} (H : ∀ k, HeapAt f h d k) : ∀ m k, k ≤ m → k < h → nm d (f + k) ≤ nm d f := by
  intro m
  induction m with
  | zero => intro k hk _; have : k = 0 := by omega
            subst this; exact Int.le_refl _
  | succ m ih =>
    intro k hk hh
    by_cases h0 : k = 0
    · subst h0; exact Int.le_refl _
    · obtain ⟨p, hp⟩ : ∃ p, k = 2 * p + 1 ∨ k = 2 * p + 2 := ⟨(k - 1) / 2, by omega⟩
      have h1 := ih p (by omega) (by omega)
      have h2 := H p
      unfold HeapAt at h2
      rcases hp with rfl | rfl
      · have := h2.1 hh; omega
      · have := h2.2 hh; omega
theorem heap_ok {n : Nat} (hn : BIG ≤ n) {a b : Nat} {d0 : List Card} (hd0 : AllC d0) (hb : b ≤ d0.length) (hl : d0.length ≤ 1000000) (hab : a < b) :
    Post a b d0 (slices_heapSortCmpFunc_A4_'o_i_compareCards n a b d0) := by
  unfold slices_heapSortCmpFunc_A4_'o_i_compareCards
  simp only [lt_eq]
  obtain ⟨h, rfl⟩ : ∃ h, b = a + h := ⟨b - a, by omega⟩
  have e1 : w64 (((a + h : Nat) : Int) - (a : Int)) = (h : Int) := by rw [w64_id (by omega)]; omega
  have e2 : w64 ((h : Int) - 1) = ((h - 1 : Nat) : Int) := w64_pred (by omega) (by omega)
  have e3 : Int.tdiv ((h - 1 : Nat) : Int) 2 = (((h - 1) / 2 : Nat) : Int) := rfl
  rw [e1, e2, e3, w64_id (by omega)]
  refine fx_inv (B := slices_heapSortCmpFunc_A4_'o_i_compareCards_L2 n) (fun s => ∃ (m : Nat) (d : List Card), s = ((a : Int), (0 : Int), (h : Int), (m : Int) - 1, d) ∧ m ≤ h ∧ Sw a (a + h) d0 d ∧ ∀ k, m ≤ k → HeapAt a h d k)
    (fun s => (s.2.2.2.1 + 1).toNat) (Post a (a + h) d0) ?_ n _ ⟨(h - 1) / 2 + 1, d0, by simp, by omega, .refl, fun k hk => ⟨fun h1 => by omega, fun h1 => by omega⟩⟩ (big_gt hn (by simp only []; omega))
  rintro self _ ⟨m, d, rfl, hm, hsw, hp⟩ ih
  have hlen := hsw.len
  have hC := hsw.allC hd0
  simp only [slices_heapSortCmpFunc_A4_'o_i_compareCards_L2]
  by_cases h0 : m = 0
  · subst h0
    rw [br_neg (decide_eq_false (by omega)), lt_eq, e2]
    refine fx_inv (B := slices_heapSortCmpFunc_A4_'o_i_compareCards_L1 n) (fun s => ∃ (m : Nat) (d : List Card), s = ((a : Int), (0 : Int), (m : Int) - 1, d) ∧ m ≤ h ∧ Sw a (a + h) d0 d ∧ (∀ k, HeapAt a m d k) ∧ ∀ p q, a ≤ p → p < q → a + m ≤ q → q < a + h → nm d p ≤ nm d q)
      (fun s => (s.2.2.1 + 1).toNat) (Post a (a + h) d0) ?_ n _ ⟨h, d, by simp; omega, Nat.le_refl _, hsw, fun k => hp k (Nat.zero_le _), fun p q _ _ _ _ => by omega⟩ (big_gt hn (by simp only []; omega))
    rintro self2 _ ⟨m, d, rfl, hm, hsw, hp, hs⟩ ih2
    have hlen := hsw.len
    have hC := hsw.allC hd0
    simp only [slices_heapSortCmpFunc_A4_'o_i_compareCards_L1]
    by_cases h0 : m = 0
    · subst h0
      rw [br_neg (decide_eq_false (by omega))]
      exact ⟨d, rfl, hsw, fun p q h1 h2 h3 => hs p q h1 h2 (by omega) h3⟩
    · obtain ⟨i, rfl⟩ : ∃ i, m = i + 1 := ⟨m - 1, by omega⟩
      have e4 : (((i + 1 : Nat) : Int) - 1) = (i : Int) := by omega
      have e5 : w64 ((a : Int) + (i : Int)) = ((a + i : Nat) : Int) := by rw [w64_id (by omega)]; omega
      rw [e4, br_pos (decide_eq_true (by omega))]
      simp only [lt_eq]
      rw [e5, ckb_pos (inb_ok (by omega)), ckb_pos (inb_ok (by omega)), ckb_pos (inb_ok (by omega)), ckb_pos (inb_ok (by rw [List.length_set]; omega)), toNat_cast, toNat_cast]
      show Post a (a + h) d0 (ob (slices_siftDownCmpFunc_A4_'o_i_compareCards n ((0 : Nat) : Int) i a (swc d a (a + i))) _)
      have hsw1 : Sw a (a + h) d0 (swc d a (a + i)) := .step hsw _ _ (by omega) (by omega) (by omega) (by omega) hb
      have hlen1 := hsw1.len
      obtain ⟨d2, g1, g2, g3⟩ := sift_ok hn (f := a) (l := 0) (h := i) (d0 := swc d a (a + i)) (hsw1.allC hd0) (by omega) (by omega) (by omega) fun k hk => by
        have o := fun x => nm_swp_or (d := d) (i := a) (j := a + i) (by omega) (by omega) (a + x)
        have o0 := o k; have o1 := o (2 * k + 1); have o2 := o (2 * k + 2)
        have g := hp k
        unfold HeapAt at g ⊢
        omega
      rw [g1, ob_some]
      refine ih2 _ ⟨i, d2, ?_, by omega, hsw1.trans (g2.mono (by omega) (by omega) (by omega)), fun k => g3 k (Nat.zero_le _), fun p q h1 h2 h3 h4 => ?_⟩ (by simp only []; rw [w64_id (by omega)]; omega)
      · rw [w64_id (by omega)]
      · have oq := nm_swp_or (d := d) (i := a) (j := a + i) (by omega) (by omega) q
        have hq : nm d2 q = nm (swc d a (a + i)) q := g2.out (.inr (by omega))
        rw [hq]
        by_cases hp1 : p < a + i
        · refine g2.all (P := fun x => x ≤ nm (swc d a (a + i)) q) (fun k hk1 hk2 => ?_) p (by omega) hp1
          have ok := nm_swp_or (d := d) (i := a) (j := a + i) (by omega) (by omega) k
          obtain ⟨z, rfl⟩ : ∃ z, k = a + z := ⟨k - a, by omega⟩
          have m1 := heap_max hp (i + 1) z (by omega) (by omega)
          have m2 := heap_max hp (i + 1) i (by omega) (by omega)
          have s1 := hs (a + z) q (by omega) (by omega)
          have s2 := hs (a + i) q (by omega)
          have s3 := hs a q (by omega)
          omega
        · have hp2 : nm d2 p = nm (swc d a (a + i)) p := g2.out (.inr (by omega))
          rw [hp2]
          have op := nm_swp_or (d := d) (i := a) (j := a + i) (by omega) (by omega) p
          have s1 := hs p q h1 h2
          have s3 := hs a q (by omega)
          omega
  · obtain ⟨i, rfl⟩ : ∃ i, m = i + 1 := ⟨m - 1, by omega⟩
    have e4 : (((i + 1 : Nat) : Int) - 1) = (i : Int) := by omega
    rw [e4, br_pos (decide_eq_true (by omega))]
    obtain ⟨d2, g1, g2, g3⟩ := sift_ok hn (f := a) (l := i) (h := h) (d0 := d) hC (by omega) (by omega) (by omega) fun k hk => hp k (by omega)
    rw [g1, ob_some, lt_eq]
    refine ih _ ⟨i, d2, ?_, by omega, hsw.trans (g2.mono (by omega) (by omega) (by omega)), g3⟩ (by simp only []; rw [w64_id (by omega)]; omega)
    rw [w64_id (by omega)]
end Go.Pl
namespace Go.Pl
open Go Go.Tv Go.RowKit
set_option linter.unusedVariables false
theorem reverse_ok {n : Nat} (hn : BIG ≤ n) {a b : Nat} {d0 : List Card} (hb : b ≤ d0.length) (hl : d0.length ≤ 1000000) (hab : a < b) :
    ∃ d, slices_reverseRangeCmpFunc_A4_'o_i_compareCards n a b d0 = some d ∧ Sw a b d0 d := by
  unfold slices_reverseRangeCmpFunc_A4_'o_i_compareCards
  rw [lt_eq, w64_pred (by omega) (by omega)]
  refine fx_inv (B := slices_reverseRangeCmpFunc_A4_'o_i_compareCards_L1 n) (fun s => ∃ (i j : Nat) (d : List Card), s = ((i : Int), (j : Int), d) ∧ a ≤ i ∧ j < b ∧ Sw a b d0 d)
    (fun s => (s.2.1 + 1).toNat) (fun o => ∃ d, o = some d ∧ Sw a b d0 d) ?_ n _ ⟨a, b - 1, d0, rfl, Nat.le_refl _, by omega, .refl⟩ (big_gt hn (by simp only []; omega))
  rintro self _ ⟨i, j, d, rfl, hi, hj, hsw⟩ ih
  have hlen := hsw.len
  simp only [slices_reverseRangeCmpFunc_A4_'o_i_compareCards_L1, lt_eq]
  by_cases hij : i < j
  · rw [br_pos (decide_eq_true (by omega)), ckb_pos (inb_ok (by omega)), ckb_pos (inb_ok (by omega)), ckb_pos (inb_ok (by omega)), ckb_pos (inb_ok (by rw [List.length_set]; omega)), w64_succ (by omega), w64_pred (by omega) (by omega)]
    exact ih _ ⟨i + 1, j - 1, swc d i j, rfl, by omega, by omega, .step hsw _ _ (by omega) (by omega) (by omega) (by omega) hb⟩ (by simp only []; omega)
  · rw [br_neg (decide_eq_false (by omega))]
    exact ⟨d, rfl, hsw⟩
theorem order2_ok {n : Nat} (hn : BIG ≤ n) {d : List Card} (hd : AllC d) {a b : Nat} (ha : a < d.length) (hb : b < d.length) (s : Int) :
    ∃ x y : Nat, ∃ s', slices_order2CmpFunc_A4_'lp_i_compareCards n d a b s = some ((x : Int), (y : Int), s') ∧ (x = a ∨ x = b) ∧ (y = a ∨ y = b) := by
  unfold slices_order2CmpFunc_A4_'lp_i_compareCards
  rw [ckb_pos (inb_ok hb), ckb_pos (inb_ok ha), toNat_cast, toNat_cast, cmp_at hn hd hb ha, ob_some]
  by_cases h : nm d b - nm d a < 0
  · rw [br_pos (decide_eq_true h)]
    exact ⟨b, a, _, rfl, .inr rfl, .inl rfl⟩
  · rw [br_neg (decide_eq_false h)]
    exact ⟨a, b, _, rfl, .inl rfl, .inr rfl⟩
theorem median_ok {n : Nat} (hn : BIG ≤ n) {d : List Card} (hd : AllC d) {a b c : Nat} (ha : a < d.length) (hb : b < d.length) (hc : c < d.length) (s : Int) :
    ∃ x : Nat, ∃ s', slices_medianCmpFunc_A4_'lp_i_compareCards n d a b c s = some ((x : Int), s') ∧ (x = a ∨ x = b ∨ x = c) := by
  unfold slices_medianCmpFunc_A4_'lp_i_compareCards
  obtain ⟨x, y, s1, e1, hx, hy⟩ := order2_ok hn hd ha hb s
  rw [e1, ob_some]
  obtain ⟨x2, y2, s2, e2, hx2, hy2⟩ := order2_ok hn hd (a := y) (b := c) (by omega) hc s1
  rw [e2, ob_some]
  obtain ⟨x3, y3, s3, e3, hx3, hy3⟩ := order2_ok hn hd (a := x) (b := x2) (by omega) (by omega) s2
  rw [e3, ob_some]
  exact ⟨y3, s3, rfl, by omega⟩
theorem medianA_ok {n : Nat} (hn : BIG ≤ n) {d : List Card} (hd : AllC d) {a : Nat} (h1 : 1 ≤ a) (ha : a + 1 < d.length) (hl : d.length ≤ 1000000) (s : Int) :
    ∃ x : Nat, ∃ s', slices_medianAdjacentCmpFunc_A4_'lp_i_compareCards n d a s = some ((x : Int), s') ∧ a - 1 ≤ x ∧ x ≤ a + 1 := by
  unfold slices_medianAdjacentCmpFunc_A4_'lp_i_compareCards
  simp only [lt_eq]
  rw [w64_pred h1 (by omega), w64_succ (by omega)]
  obtain ⟨x, s', e, hx⟩ := median_ok hn hd (a := a - 1) (b := a) (c := a + 1) (by omega) (by omega) ha s
  rw [e, ob_some]
  exact ⟨x, s', rfl, by omega, by omega⟩
theorem pivot_J1 {n : Nat} (p : Nat) (s : Int) : ∃ h, slices_choosePivotCmpFunc_A4_'l_i_compareCards_J1 n ((p : Int), s) = some ((p : Int), h) := by
  unfold slices_choosePivotCmpFunc_A4_'l_i_compareCards_J1
  rw [br_dec, br_dec]
  split
  · exact ⟨_, rfl⟩
  · split <;> exact ⟨_, rfl⟩
theorem pivot_ok {n : Nat} (hn : BIG ≤ n) {d : List Card} (hd : AllC d) {a b : Nat} (hb : b ≤ d.length) (hab : a + 8 ≤ b) (hl : d.length ≤ 1000000) :
    ∃ p : Nat, ∃ h, slices_choosePivotCmpFunc_A4_'l_i_compareCards n d a b = some ((p : Int), h) ∧ a ≤ p ∧ p < b := by
  unfold slices_choosePivotCmpFunc_A4_'l_i_compareCards
  obtain ⟨l, rfl⟩ : ∃ l, b = a + l := ⟨b - a, by omega⟩
  have e1 : w64 (((a + l : Nat) : Int) - (a : Int)) = (l : Int) := by rw [w64_id (by omega)]; omega
  have e2 : w64 (Int.tdiv (l : Int) 4) = ((l / 4 : Nat) : Int) := by
    have : Int.tdiv (l : Int) 4 = ((l / 4 : Nat) : Int) := rfl
    rw [this, w64_id (by omega)]
  have e3 : ∀ k : Nat, k ≤ 3 → w64 ((a : Int) + w64 (((l / 4 : Nat) : Int) * (k : Int))) = ((a + l / 4 * k : Nat) : Int) := fun k hk => by
    have h : (((l / 4 : Nat) : Int) * (k : Int)) = ((l / 4 * k : Nat) : Int) := by simp
    have h2 : l / 4 * k ≤ l / 4 * 3 := Nat.mul_le_mul_left _ hk
    rw [h, w64_id (x := ((l / 4 * k : Nat) : Int)) (by omega), w64_id (by omega)]; omega
  have f1 := e3 1 (by omega); have f2 := e3 2 (by omega); have f3 := e3 3 (by omega)
  simp only [lt_eq, e1, e2]
  rw [show w64 ((a : Int) + w64 (((l / 4 : Nat) : Int) * 1)) = ((a + l / 4 * 1 : Nat) : Int) from f1, show w64 ((a : Int) + w64 (((l / 4 : Nat) : Int) * 2)) = ((a + l / 4 * 2 : Nat) : Int) from f2, show w64 ((a : Int) + w64 (((l / 4 : Nat) : Int) * 3)) = ((a + l / 4 * 3 : Nat) : Int) from f3]
  have J2 : ∀ (x y z : Nat) (s : Int), a ≤ x → x < a + l → a ≤ y → y < a + l → a ≤ z → z < a + l → ∃ p : Nat, ∃ h, slices_choosePivotCmpFunc_A4_'l_i_compareCards_J2 n (d, (x : Int), (y : Int), (z : Int), s) = some ((p : Int), h) ∧ a ≤ p ∧ p < a + l := fun x y z s h1 h2 h3 h4 h5 h6 => by
    unfold slices_choosePivotCmpFunc_A4_'l_i_compareCards_J2
    obtain ⟨p, s', e, hp⟩ := median_ok hn hd (a := x) (b := y) (c := z) (by omega) (by omega) (by omega) s
    simp only []
    rw [e, ob_some]
    obtain ⟨h, e4⟩ := pivot_J1 (n := n) p s'
    exact ⟨p, h, e4, by omega, by omega⟩
  rw [br_pos (decide_eq_true (by omega)), br_dec]
  split
  · obtain ⟨x, s1, g1, hx⟩ := medianA_ok hn hd (a := a + l / 4 * 1) (by omega) (by omega) hl 0
    rw [g1, ob_some]
    obtain ⟨y, s2, g2, hy⟩ := medianA_ok hn hd (a := a + l / 4 * 2) (by omega) (by omega) hl s1
    rw [g2, ob_some]
    obtain ⟨z, s3, g3, hz⟩ := medianA_ok hn hd (a := a + l / 4 * 3) (by omega) (by omega) hl s2
    rw [g3, ob_some]
    exact J2 x y z s3 (by omega) (by omega) (by omega) (by omega) (by omega) (by omega)
  · exact J2 _ _ _ 0 (by omega) (by omega) (by omega) (by omega) (by omega) (by omega)
noncomputable def okLenN (k : Nat) : Bool := (List.range 193).all fun m => match math_bits_Len k (IntKind.wrap .u64 ((m + 8 : Nat) : Int)) with
  | some r => decide (0 ≤ r) && (match shlI .u64 1 r with
    | x => decide (1 ≤ x) && decide (x ≤ 2 * ((m + 8 : Nat) : Int)))
  | none => false
noncomputable def okLen0 (k : Nat) : Bool := (List.range 201).all fun m => match math_bits_Len k (IntKind.wrap .u64 (m : Int)) with
  | some r => decide (0 ≤ r) && decide (r ≤ 100)
  | none => false
theorem okLenN_ok (k : Nat) : okLenN k = true := by kernel_rfl
theorem okLen0_ok (k : Nat) : okLen0 k = true := by kernel_rfl
theorem pow2_ok (n : Nat) {m : Nat} (h1 : 8 ≤ m) (h2 : m ≤ 200) : ∃ x : Int, slices_nextPowerOfTwo n (m : Int) = some x ∧ 1 ≤ x ∧ x ≤ 2 * (m : Int) := by
  have := List.all_eq_true.1 (okLenN_ok n) (m - 8) (List.mem_range.2 (by omega))
  rw [show m - 8 + 8 = m by omega] at this
  unfold slices_nextPowerOfTwo
  rw [lt_eq]
  cases hr : math_bits_Len n (IntKind.wrap .u64 (m : Int)) with
  | none => rw [hr] at this; cases this
  | some r =>
    rw [hr] at this
    simp only [Bool.and_eq_true] at this
    rw [ob_some, ckb_pos (show nneg r = true from this.1), lt_eq]
    exact ⟨_, rfl, of_decide_eq_true this.2.1, of_decide_eq_true this.2.2⟩
theorem bitsLen_ok (n : Nat) {m : Nat} (h2 : m ≤ 200) : ∃ r : Nat, math_bits_Len n (IntKind.wrap .u64 (m : Int)) = some (r : Int) ∧ r ≤ 100 := by
  have := List.all_eq_true.1 (okLen0_ok n) m (List.mem_range.2 (by omega))
  cases hr : math_bits_Len n (IntKind.wrap .u64 (m : Int)) with
  | none => rw [hr] at this; cases this
  | some r =>
    rw [hr] at this
    simp only [Bool.and_eq_true, decide_eq_true_eq] at this
    exact ⟨r.toNat, by simp; omega, by omega⟩
theorem next_tot (n : Nat) (x : Int) : ∃ r, __slices_xorshift__Next'p n x = some r := ⟨_, rfl⟩
theorem and_le {x y : Int} (h0 : 0 ≤ y) (h1 : y < 1000000) : 0 ≤ bits .and .u64 x y ∧ bits .and .u64 x y ≤ y := by
  have h : (BitVec.ofInt 64 x &&& BitVec.ofInt 64 y).toNat ≤ y.toNat := by
    rw [BitVec.toNat_and]
    refine Nat.le_trans Nat.and_le_right ?_
    rw [BitVec.toNat_ofInt]; omega
  have e : bits .and .u64 x y = IntKind.u64.wrap ((BitVec.ofInt 64 x &&& BitVec.ofInt 64 y).toNat : Int) := rfl
  rw [e]
  generalize (BitVec.ofInt 64 x &&& BitVec.ofInt 64 y).toNat = q at h
  simp only [IntKind.wrap, IntKind.bits, IntKind.signed]
  simp
  omega
theorem wu64_id {x : Int} (h : 0 ≤ x ∧ x < 18446744073709551616) : IntKind.wrap .u64 x = x := by
  simp only [IntKind.wrap, IntKind.bits, IntKind.signed]
  simp
  omega
theorem break_J {n : Nat} {a b l : Nat} {d0 d : List Card} (hb : b ≤ d0.length) (hl : d0.length ≤ 1000000) (hbl : b = a + l) (hsw : Sw a b d0 d) {i k : Nat} (x6 r : Int) (hi : a ≤ i) (hib : i < b) (hk : k < l)
    (self : Int × Int × Int × Int × List Card × Int → Opt (List Card)) (Q : Opt (List Card) → Prop) (ih : Q (self ((a : Int), (l : Int), x6, ((i + 1 : Nat) : Int), swc d i (a + k), r))) :
    Q (slices_breakPatternsCmpFunc_A4_'o_i_compareCards_J1 n self ((a : Int), (l : Int), x6, (i : Int), (k : Int), d, r)) := by
  have hlen := hsw.len
  simp only [slices_breakPatternsCmpFunc_A4_'o_i_compareCards_J1, lt_eq]
  have e : w64 ((a : Int) + (k : Int)) = ((a + k : Nat) : Int) := by rw [w64_id (by omega)]; omega
  rw [e, ckb_pos (inb_ok (by omega)), ckb_pos (inb_ok (by omega)), ckb_pos (inb_ok (by omega)), ckb_pos (inb_ok (by rw [List.length_set]; omega)), w64_succ (by omega)]
  exact ih
theorem break_ok {n : Nat} (hn : BIG ≤ n) {a b : Nat} {d0 : List Card} (hb : b ≤ d0.length) (hl : d0.length ≤ 200) (hab : a + 8 ≤ b) :
    ∃ d, slices_breakPatternsCmpFunc_A4_'o_i_compareCards n a b d0 = some d ∧ Sw a b d0 d := by
  unfold slices_breakPatternsCmpFunc_A4_'o_i_compareCards
  obtain ⟨l, rfl⟩ : ∃ l, b = a + l := ⟨b - a, by omega⟩
  have e1 : w64 (((a + l : Nat) : Int) - (a : Int)) = (l : Int) := by rw [w64_id (by omega)]; omega
  have e2 : w64 (Int.tdiv (l : Int) 4) = ((l / 4 : Nat) : Int) := by
    have : Int.tdiv (l : Int) 4 = ((l / 4 : Nat) : Int) := rfl
    rw [this, w64_id (by omega)]
  obtain ⟨x6, g6, h6, h6'⟩ := pow2_ok n (m := l) (by omega) (by omega)
  simp only [lt_eq, e1, e2]
  have e3 : w64 (((l / 4 : Nat) : Int) * 2) = ((l / 4 * 2 : Nat) : Int) := by rw [w64_id (by omega)]; omega
  have e4 : w64 ((a : Int) + ((l / 4 * 2 : Nat) : Int)) = ((a + l / 4 * 2 : Nat) : Int) := by rw [w64_id (by omega)]; omega
  rw [br_pos (decide_eq_true (by omega)), g6, ob_some, e3, e4, w64_pred (by omega) (by omega)]
  refine fx_inv (B := slices_breakPatternsCmpFunc_A4_'o_i_compareCards_L2 n) (fun s => ∃ (i : Nat) (d : List Card) (r : Int), s = ((a : Int), (l : Int), x6, (i : Int), d, r) ∧ a + l / 4 * 2 - 1 ≤ i ∧ Sw a (a + l) d0 d)
    (fun s => 1000 - s.2.2.2.1.toNat) (fun o => ∃ d, o = some d ∧ Sw a (a + l) d0 d) ?_ n _ ⟨a + l / 4 * 2 - 1, d0, _, rfl, Nat.le_refl _, .refl⟩ (big_gt hn (by simp only []; omega))
  rintro self _ ⟨i, d, r, rfl, hi, hsw⟩ ih
  simp only [slices_breakPatternsCmpFunc_A4_'o_i_compareCards_L2, lt_eq, e2, e3, e4]
  rw [w64_succ (by omega)]
  by_cases hc : i ≤ a + l / 4 * 2 + 1
  · rw [br_pos (decide_eq_true (by omega))]
    obtain ⟨r2, hr2⟩ := next_tot n r
    rw [hr2, ob_some, wu64_id (x := x6 - 1) (by omega)]
    have hand := and_le (x := r2.1) (y := x6 - 1) (by omega) (by omega)
    obtain ⟨z, hz⟩ : ∃ z : Nat, bits .and .u64 r2.1 (x6 - 1) = (z : Int) := ⟨(bits .and .u64 r2.1 (x6 - 1)).toNat, by omega⟩
    rw [hz] at hand ⊢
    rw [w64_id (x := (z : Int)) (by omega), br_dec]
    split
    · have e5 : w64 ((z : Int) - (l : Int)) = ((z - l : Nat) : Int) := by rw [w64_id (by omega)]; omega
      rw [e5]
      exact break_J (a := a) (i := i) (k := z - l) (by omega) (by omega) rfl hsw x6 r2.2 (by omega) (by omega) (by omega) self (fun o => ∃ d, o = some d ∧ Sw a (a + l) d0 d) (ih _ ⟨i + 1, _, r2.2, rfl, by omega, .step hsw i (a + (z - l)) (by omega) (by omega) (by omega) (by omega) (by omega)⟩ (by simp only []; omega))
    · exact break_J (a := a) (i := i) (k := z) (by omega) (by omega) rfl hsw x6 r2.2 (by omega) (by omega) (by omega) self (fun o => ∃ d, o = some d ∧ Sw a (a + l) d0 d) (ih _ ⟨i + 1, _, r2.2, rfl, by omega, .step hsw i (a + z) (by omega) (by omega) (by omega) (by omega) (by omega)⟩ (by simp only []; omega))
  · rw [br_neg (decide_eq_false (by omega))]
    exact ⟨d, rfl, hsw⟩
end Go.Pl
namespace Go.Pl
open Go Go.Tv Go.RowKit
set_option linter.unusedVariables false
structure PI (a b i j : Nat) (d0 d : List Card) : Prop where
  ai : a < i
  ij : i ≤ j + 1
  jb : j < b
  sw : Sw a b d0 d
  lo : ∀ k, a < k → k < i → nm d k < nm d a
  hi : ∀ k, j < k → k < b → nm d a ≤ nm d k
def PQ (a b : Nat) (d0 : List Card) (o : Opt (Int × Bool × List Card)) : Prop := ∃ (m : Nat) (f : Bool) (d : List Card), o = some ((m : Int), f, d) ∧ a ≤ m ∧ m < b ∧ Sw a b d0 d ∧ (∀ k, a ≤ k → k < m → nm d k < nm d m) ∧ ∀ k, m < k → k < b → nm d m ≤ nm d k
section
variable {a b i j : Nat} {d0 d : List Card}
theorem PI.up (I : PI a b i j d0 d) (h : i ≤ j) (hl : nm d i < nm d a) : PI a b (i + 1) j d0 d :=
  ⟨by have := I.ai; omega, by omega, I.jb, I.sw, fun k h1 h2 => by
    by_cases hk : k = i
    · subst hk; exact hl
    · exact I.lo k h1 (by omega), I.hi⟩
theorem PI.down (I : PI a b i j d0 d) (h : i ≤ j) (hl : nm d a ≤ nm d j) : PI a b i (j - 1) d0 d := by
  have := I.ai; have := I.jb
  exact ⟨I.ai, by omega, by omega, I.sw, I.lo, fun k h1 h2 => by
    by_cases hk : k = j
    · subst hk; exact hl
    · exact I.hi k (by omega) h2⟩
theorem PI.swap (I : PI a b i j d0 d) (hb : b ≤ d0.length) (h : i < j) (h1 : nm d a ≤ nm d i) (h2 : nm d j < nm d a) : PI a b (i + 1) (j - 1) d0 (swc d i j) := by
  have := I.ai; have := I.jb; have := I.sw.len
  have l1 : i < d.length := by omega
  have l2 : j < d.length := by omega
  have ea : nm (swc d i j) a = nm d a := nso l1 l2 (by omega) (by omega)
  refine ⟨by omega, by omega, by omega, .step I.sw _ _ (by omega) (by omega) (by omega) (by omega) hb, fun k k1 k2 => ?_, fun k k1 k2 => ?_⟩
  · rw [ea]
    by_cases hk : k = i
    · subst hk; rw [nsi l1 l2]; exact h2
    · rw [nso l1 l2 hk (by omega)]; exact I.lo k k1 (by omega)
  · rw [ea]
    by_cases hk : k = j
    · subst hk; rw [nsj l1 l2]; exact h1
    · rw [nso l1 l2 (by omega) hk]; exact I.hi k (by omega) k2
theorem PI.fin (I : PI a b i j d0 d) (hb : b ≤ d0.length) (h : j < i) (f : Bool) : PQ a b d0 (some ((j : Int), f, swc d j a)) := by
  have := I.ai; have := I.jb; have := I.sw.len; have := I.ij
  have l1 : j < d.length := by omega
  have l2 : a < d.length := by omega
  refine ⟨j, f, _, rfl, by omega, I.jb, .step I.sw _ _ (by omega) (by omega) (by omega) (by omega) hb, fun k k1 k2 => ?_, fun k k1 k2 => ?_⟩
  · rw [nsi l1 l2]
    by_cases hk : k = a
    · subst hk; rw [nsj l1 l2]; exact I.lo j k2 h
    · rw [nso l1 l2 (by omega) hk]; exact I.lo k (by omega) (by omega)
  · rw [nsi l1 l2, nso l1 l2 (by omega) (by omega)]; exact I.hi k k1 k2
end
theorem part_L1 {n : Nat} (hn : BIG ≤ n) {a b i : Nat} {d0 : List Card} (hd0 : AllC d0) (hb : b ≤ d0.length) (hl : d0.length ≤ 1000000) (go : Int × Int × Int × List Card → Opt (Int × Bool × List Card)) {j : Nat} {d : List Card} (I : PI a b i j d0 d)
    (hI : i ≤ j → nm d a ≤ nm d i) (ih : ∀ j' e, PI a b (i + 1) j' d0 e → j' < j → PQ a b d0 (go ((a : Int), ((i + 1 : Nat) : Int), (j' : Int), e))) :
    PQ a b d0 (fx (slices_partitionCmpFunc_A4_'o_i_compareCards_L1 n go) n ((a : Int), (i : Int), (j : Int), d)) := by
  have hai := I.ai; have hjb := I.jb
  refine fx_inv (B := slices_partitionCmpFunc_A4_'o_i_compareCards_L1 n go) (fun s => ∃ (j' : Nat), s = ((a : Int), (i : Int), (j' : Int), d) ∧ j' ≤ j ∧ PI a b i j' d0 d ∧ (i ≤ j' → nm d a ≤ nm d i))
    (fun s => s.2.2.1.toNat) (PQ a b d0) ?_ n _ ⟨j, rfl, Nat.le_refl _, I, hI⟩ (big_gt hn (by simp only []; omega))
  clear I hI hjb
  rintro self _ ⟨j', rfl, hj', I, hI⟩ ih2
  have hlen := I.sw.len; have hC := I.sw.allC hd0; have hjb := I.jb; have hij := I.ij
  simp only [slices_partitionCmpFunc_A4_'o_i_compareCards_L1, lt_eq]
  by_cases hle : i ≤ j'
  · rw [br_pos (decide_eq_true (show (i : Int) ≤ (j' : Int) by omega)), ckb_pos (inb_ok (by omega)), ckb_pos (inb_ok (by omega)), toNat_cast, toNat_cast, toNat_cast, cmp_at hn hC (by omega) (by omega), ob_some, ob_some]
    by_cases hlt : nm d j' - nm d a < 0
    · rw [br_neg (show (!decide (nm d j' - nm d a < 0)) = false by rw [decide_eq_true hlt]; rfl), br_neg (decide_eq_false (show ¬ (j' : Int) < (i : Int) by omega)),
        ckb_pos (inb_ok (by omega)), ckb_pos (inb_ok (by omega)), ckb_pos (inb_ok (by omega)), ckb_pos (inb_ok (by rw [List.length_set]; omega)), w64_succ (by omega), w64_pred (by omega) (by omega)]
      have hne : i ≠ j' := fun e => by subst e; have := hI hle; omega
      exact ih (j' - 1) _ (I.swap hb (by omega) (hI hle) (by omega)) (by omega)
    · rw [br_pos (show (!decide (nm d j' - nm d a < 0)) = true by rw [decide_eq_false hlt]; rfl), w64_pred (by omega) (by omega)]
      exact ih2 _ ⟨j' - 1, rfl, by omega, I.down hle (by omega), fun h => hI (by omega)⟩ (by simp only []; omega)
  · rw [br_neg (decide_eq_false (show ¬ (i : Int) ≤ (j' : Int) by omega)), ob_some, br_false, br_pos (decide_eq_true (show (j' : Int) < (i : Int) by omega)),
      ckb_pos (inb_ok (by omega)), ckb_pos (inb_ok (by omega)), ckb_pos (inb_ok (by omega)), ckb_pos (inb_ok (by rw [List.length_set]; omega))]
    exact I.fin hb (by omega) false
theorem part_L3 {n : Nat} (hn : BIG ≤ n) {a b : Nat} {d0 : List Card} (hd0 : AllC d0) (hb : b ≤ d0.length) (hl : d0.length ≤ 1000000) {i j : Nat} {d : List Card} (I : PI a b i j d0 d) :
    PQ a b d0 (fx (slices_partitionCmpFunc_A4_'o_i_compareCards_L3 n) n ((a : Int), (i : Int), (j : Int), d)) := by
  have hai := I.ai; have hjb := I.jb
  refine fx_inv (B := slices_partitionCmpFunc_A4_'o_i_compareCards_L3 n) (fun s => ∃ (i j : Nat) (d : List Card), s = ((a : Int), (i : Int), (j : Int), d) ∧ PI a b i j d0 d)
    (fun s => s.2.2.1.toNat) (PQ a b d0) ?_ n _ ⟨i, j, d, rfl, I⟩ (big_gt hn (by simp only []; omega))
  clear I hai hjb i j d
  rintro self _ ⟨i, j, d, rfl, I⟩ ih
  simp only [slices_partitionCmpFunc_A4_'o_i_compareCards_L3]
  have hjb := I.jb; have hij := I.ij
  refine fx_inv (B := slices_partitionCmpFunc_A4_'o_i_compareCards_L2 n self) (fun s => ∃ (i : Nat), s = ((a : Int), (i : Int), (j : Int), d) ∧ PI a b i j d0 d)
    (fun s => 2000000 - s.2.1.toNat) (PQ a b d0) ?_ n _ ⟨i, rfl, I⟩ (big_gt hn (by simp only []; omega))
  clear I hij
  rintro self2 _ ⟨i, rfl, I⟩ ih2
  have hlen := I.sw.len; have hC := I.sw.allC hd0; have hai := I.ai; have hij := I.ij
  simp only [slices_partitionCmpFunc_A4_'o_i_compareCards_L2, lt_eq]
  by_cases hle : i ≤ j
  · rw [br_pos (decide_eq_true (show (i : Int) ≤ (j : Int) by omega)), ckb_pos (inb_ok (by omega)), ckb_pos (inb_ok (by omega)), toNat_cast, toNat_cast, cmp_at hn hC (by omega) (by omega), ob_some, ob_some]
    by_cases hlt : nm d i - nm d a < 0
    · rw [br_pos (decide_eq_true hlt), w64_succ (by omega)]
      exact ih2 _ ⟨i + 1, rfl, I.up hle (by omega)⟩ (by simp only []; omega)
    · rw [br_neg (decide_eq_false hlt)]
      exact part_L1 hn hd0 hb hl self I (fun _ => by omega) fun j' e hI hj' => ih _ ⟨i + 1, j', e, rfl, hI⟩ (by simp only []; omega)
  · rw [br_neg (decide_eq_false (show ¬ (i : Int) ≤ (j : Int) by omega)), ob_some, br_false]
    exact part_L1 hn hd0 hb hl self I (fun h => absurd h hle) fun j' e hI hj' => ih _ ⟨i + 1, j', e, rfl, hI⟩ (by simp only []; omega)
theorem part_L4 {n : Nat} (hn : BIG ≤ n) {a b i : Nat} {d0 : List Card} (hd0 : AllC d0) (hb : b ≤ d0.length) (hl : d0.length ≤ 1000000) {j : Nat} {d : List Card} (I : PI a b i j d0 d)
    (hI : i ≤ j → nm d a ≤ nm d i) : PQ a b d0 (fx (slices_partitionCmpFunc_A4_'o_i_compareCards_L4 n) n ((a : Int), (i : Int), (j : Int), d)) := by
  have hai := I.ai; have hjb := I.jb
  refine fx_inv (B := slices_partitionCmpFunc_A4_'o_i_compareCards_L4 n) (fun s => ∃ (j' : Nat), s = ((a : Int), (i : Int), (j' : Int), d) ∧ PI a b i j' d0 d ∧ (i ≤ j' → nm d a ≤ nm d i))
    (fun s => s.2.2.1.toNat) (PQ a b d0) ?_ n _ ⟨j, rfl, I, hI⟩ (big_gt hn (by simp only []; omega))
  clear I hI hjb j
  rintro self _ ⟨j', rfl, I, hI⟩ ih2
  have hlen := I.sw.len; have hC := I.sw.allC hd0; have hjb := I.jb; have hij := I.ij
  simp only [slices_partitionCmpFunc_A4_'o_i_compareCards_L4, lt_eq]
  by_cases hle : i ≤ j'
  · rw [br_pos (decide_eq_true (show (i : Int) ≤ (j' : Int) by omega)), ckb_pos (inb_ok (by omega)), ckb_pos (inb_ok (by omega)), toNat_cast, toNat_cast, toNat_cast, cmp_at hn hC (by omega) (by omega), ob_some, ob_some]
    by_cases hlt : nm d j' - nm d a < 0
    · rw [br_neg (show (!decide (nm d j' - nm d a < 0)) = false by rw [decide_eq_true hlt]; rfl), br_neg (decide_eq_false (show ¬ (j' : Int) < (i : Int) by omega)),
        ckb_pos (inb_ok (by omega)), ckb_pos (inb_ok (by omega)), ckb_pos (inb_ok (by omega)), ckb_pos (inb_ok (by rw [List.length_set]; omega)), w64_succ (by omega), w64_pred (by omega) (by omega)]
      have hne : i ≠ j' := fun e => by subst e; have := hI hle; omega
      exact part_L3 hn hd0 hb hl (I.swap hb (by omega) (hI hle) (by omega))
    · rw [br_pos (show (!decide (nm d j' - nm d a < 0)) = true by rw [decide_eq_false hlt]; rfl), w64_pred (by omega) (by omega)]
      exact ih2 _ ⟨j' - 1, rfl, I.down hle (by omega), fun h => hI (by omega)⟩ (by simp only []; omega)
  · rw [br_neg (decide_eq_false (show ¬ (i : Int) ≤ (j' : Int) by omega)), ob_some, br_false, br_pos (decide_eq_true (show (j' : Int) < (i : Int) by omega)),
      ckb_pos (inb_ok (by omega)), ckb_pos (inb_ok (by omega)), ckb_pos (inb_ok (by omega)), ckb_pos (inb_ok (by rw [List.length_set]; omega))]
    exact I.fin hb (by omega) true
theorem part_ok {n : Nat} (hn : BIG ≤ n) {a b p : Nat} {d0 : List Card} (hd0 : AllC d0) (hb : b ≤ d0.length) (hl : d0.length ≤ 1000000) (hp : a ≤ p) (hpb : p < b) :
    PQ a b d0 (slices_partitionCmpFunc_A4_'o_i_compareCards n a b p d0) := by
  unfold slices_partitionCmpFunc_A4_'o_i_compareCards
  simp only [lt_eq]
  rw [ckb_pos (inb_ok (by omega)), ckb_pos (inb_ok (by omega)), ckb_pos (inb_ok (by omega)), ckb_pos (inb_ok (by rw [List.length_set]; omega)), w64_succ (by omega), w64_pred (by omega) (by omega), toNat_cast, toNat_cast]
  have I0 : PI a b (a + 1) (b - 1) d0 (swc d0 a p) := ⟨by omega, by omega, by omega, .step .refl _ _ (by omega) (by omega) (by omega) (by omega) hb, fun k h1 h2 => by omega, fun k h1 h2 => by omega⟩
  refine fx_inv (B := slices_partitionCmpFunc_A4_'o_i_compareCards_L5 n) (fun s => ∃ (i : Nat), s = ((a : Int), (i : Int), ((b - 1 : Nat) : Int), swc d0 a p) ∧ PI a b i (b - 1) d0 (swc d0 a p))
    (fun s => 2000000 - s.2.1.toNat) (PQ a b d0) ?_ n _ ⟨a + 1, rfl, I0⟩ (big_gt hn (by simp only []; omega))
  rintro self _ ⟨i, rfl, I⟩ ih
  have hlen := I.sw.len; have hC := I.sw.allC hd0; have hai := I.ai; have hij := I.ij
  simp only [slices_partitionCmpFunc_A4_'o_i_compareCards_L5, lt_eq]
  by_cases hle : i ≤ b - 1
  · rw [br_pos (decide_eq_true (show (i : Int) ≤ ((b - 1 : Nat) : Int) by omega)), ckb_pos (inb_ok (by omega)), ckb_pos (inb_ok (by omega)), toNat_cast, toNat_cast, cmp_at hn hC (by omega) (by omega), ob_some, ob_some]
    by_cases hlt : nm (swc d0 a p) i - nm (swc d0 a p) a < 0
    · rw [br_pos (decide_eq_true hlt), w64_succ (by omega)]
      exact ih _ ⟨i + 1, rfl, I.up hle (by omega)⟩ (by simp only []; omega)
    · rw [br_neg (decide_eq_false hlt)]
      exact part_L4 hn hd0 hb hl I (fun _ => by omega)
  · rw [br_neg (decide_eq_false (show ¬ (i : Int) ≤ ((b - 1 : Nat) : Int) by omega)), ob_some, br_false]
    exact part_L4 hn hd0 hb hl I (fun h => absurd h hle)
structure EI (a b i j : Nat) (d0 d : List Card) : Prop where
  ai : a < i
  ij : i ≤ j + 1
  jb : j < b
  sw : Sw a b d0 d
  mn : ∀ k, a ≤ k → k < b → nm d a ≤ nm d k
  lo : ∀ k, a < k → k < i → nm d k ≤ nm d a
  hi : ∀ k, j < k → k < b → nm d a < nm d k
def EQ (a b : Nat) (d0 : List Card) (o : Opt (Int × List Card)) : Prop := ∃ (m : Nat) (d : List Card), o = some ((m : Int), d) ∧ a < m ∧ m ≤ b ∧ Sw a b d0 d ∧ ∀ k, a ≤ k → k < m → ∀ q, a ≤ q → q < b → nm d k ≤ nm d q
section
variable {a b i j : Nat} {d0 d : List Card}
theorem EI.up (I : EI a b i j d0 d) (h : i ≤ j) (hl : nm d i ≤ nm d a) : EI a b (i + 1) j d0 d :=
  ⟨by have := I.ai; omega, by omega, I.jb, I.sw, I.mn, fun k h1 h2 => by
    by_cases hk : k = i
    · subst hk; exact hl
    · exact I.lo k h1 (by omega), I.hi⟩
theorem EI.down (I : EI a b i j d0 d) (h : i ≤ j) (hl : nm d a < nm d j) : EI a b i (j - 1) d0 d := by
  have := I.ai; have := I.jb
  exact ⟨I.ai, by omega, by omega, I.sw, I.mn, I.lo, fun k h1 h2 => by
    by_cases hk : k = j
    · subst hk; exact hl
    · exact I.hi k (by omega) h2⟩
theorem EI.swap (I : EI a b i j d0 d) (hb : b ≤ d0.length) (h : i < j) (h1 : nm d a < nm d i) (h2 : nm d j ≤ nm d a) : EI a b (i + 1) (j - 1) d0 (swc d i j) := by
  have := I.ai; have := I.jb; have := I.sw.len
  have l1 : i < d.length := by omega
  have l2 : j < d.length := by omega
  have ea : nm (swc d i j) a = nm d a := nso l1 l2 (by omega) (by omega)
  refine ⟨by omega, by omega, by omega, .step I.sw _ _ (by omega) (by omega) (by omega) (by omega) hb, ?_, fun k k1 k2 => ?_, fun k k1 k2 => ?_⟩
  · rw [ea]
    have hl : b ≤ d.length := by omega
    exact (Sw.step (a := a) (b := b) (d := d) .refl i j (by omega) (by omega) (by omega) (by omega) hl).all (P := fun x => nm d a ≤ x) I.mn
  · rw [ea]
    by_cases hk : k = i
    · subst hk; rw [nsi l1 l2]; exact h2
    · rw [nso l1 l2 hk (by omega)]; exact I.lo k k1 (by omega)
  · rw [ea]
    by_cases hk : k = j
    · subst hk; rw [nsj l1 l2]; exact h1
    · rw [nso l1 l2 (by omega) hk]; exact I.hi k (by omega) k2
theorem EI.fin (I : EI a b i j d0 d) (h : j < i) : EQ a b d0 (some ((i : Int), d)) := by
  have := I.ai; have := I.jb; have := I.ij
  refine ⟨i, d, rfl, I.ai, by omega, I.sw, fun k k1 k2 q q1 q2 => ?_⟩
  have := I.mn q q1 q2
  by_cases hk : k = a
  · subst hk; exact this
  · have := I.lo k (by omega) k2; omega
end
theorem eq_L1 {n : Nat} (hn : BIG ≤ n) {a b i : Nat} {d0 : List Card} (hd0 : AllC d0) (hb : b ≤ d0.length) (hl : d0.length ≤ 1000000) (go : Int × Int × Int × List Card → Opt (Int × List Card)) {j : Nat} {d : List Card} (I : EI a b i j d0 d)
    (hI : i ≤ j → nm d a < nm d i) (ih : ∀ j' e, EI a b (i + 1) j' d0 e → j' < j → EQ a b d0 (go ((a : Int), ((i + 1 : Nat) : Int), (j' : Int), e))) :
    EQ a b d0 (fx (slices_partitionEqualCmpFunc_A4_'o_i_compareCards_L1 n go) n ((a : Int), (i : Int), (j : Int), d)) := by
  have hai := I.ai; have hjb := I.jb
  refine fx_inv (B := slices_partitionEqualCmpFunc_A4_'o_i_compareCards_L1 n go) (fun s => ∃ (j' : Nat), s = ((a : Int), (i : Int), (j' : Int), d) ∧ j' ≤ j ∧ EI a b i j' d0 d ∧ (i ≤ j' → nm d a < nm d i))
    (fun s => s.2.2.1.toNat) (EQ a b d0) ?_ n _ ⟨j, rfl, Nat.le_refl _, I, hI⟩ (big_gt hn (by simp only []; omega))
  clear I hI hjb
  rintro self _ ⟨j', rfl, hj', I, hI⟩ ih2
  have hlen := I.sw.len; have hC := I.sw.allC hd0; have hjb := I.jb; have hij := I.ij
  simp only [slices_partitionEqualCmpFunc_A4_'o_i_compareCards_L1, lt_eq]
  by_cases hle : i ≤ j'
  · rw [br_pos (decide_eq_true (show (i : Int) ≤ (j' : Int) by omega)), ckb_pos (inb_ok (by omega)), ckb_pos (inb_ok (by omega)), toNat_cast, toNat_cast, toNat_cast, cmp_at hn hC (by omega) (by omega), ob_some, ob_some]
    by_cases hlt : nm d a - nm d j' < 0
    · rw [br_pos (decide_eq_true hlt), w64_pred (by omega) (by omega)]
      exact ih2 _ ⟨j' - 1, rfl, by omega, I.down hle (by omega), fun h => hI (by omega)⟩ (by simp only []; omega)
    · rw [br_neg (decide_eq_false hlt), br_neg (decide_eq_false (show ¬ (j' : Int) < (i : Int) by omega)),
        ckb_pos (inb_ok (by omega)), ckb_pos (inb_ok (by omega)), ckb_pos (inb_ok (by omega)), ckb_pos (inb_ok (by rw [List.length_set]; omega)), w64_succ (by omega), w64_pred (by omega) (by omega)]
      have hne : i ≠ j' := fun e => by subst e; have := hI hle; omega
      exact ih (j' - 1) _ (I.swap hb (by omega) (hI hle) (by omega)) (by omega)
  · rw [br_neg (decide_eq_false (show ¬ (i : Int) ≤ (j' : Int) by omega)), ob_some, br_false, br_pos (decide_eq_true (show (j' : Int) < (i : Int) by omega))]
    exact I.fin (by omega)
theorem eq_ok {n : Nat} (hn : BIG ≤ n) {a b p : Nat} {d0 : List Card} (hd0 : AllC d0) (hb : b ≤ d0.length) (hl : d0.length ≤ 1000000) (hp : a ≤ p) (hpb : p < b) (hmin : ∀ k, a ≤ k → k < b → nm d0 p ≤ nm d0 k) :
    EQ a b d0 (slices_partitionEqualCmpFunc_A4_'o_i_compareCards n a b p d0) := by
  unfold slices_partitionEqualCmpFunc_A4_'o_i_compareCards
  simp only [lt_eq]
  rw [ckb_pos (inb_ok (by omega)), ckb_pos (inb_ok (by omega)), ckb_pos (inb_ok (by omega)), ckb_pos (inb_ok (by rw [List.length_set]; omega)), w64_succ (by omega), w64_pred (by omega) (by omega), toNat_cast, toNat_cast]
  have hsw : Sw a b d0 (swc d0 a p) := .step .refl _ _ (by omega) (by omega) (by omega) (by omega) hb
  have ea : nm (swc d0 a p) a = nm d0 p := nsi (by omega) (by omega)
  have I0 : EI a b (a + 1) (b - 1) d0 (swc d0 a p) := ⟨by omega, by omega, by omega, hsw, by rw [ea]; exact hsw.all (P := fun x => nm d0 p ≤ x) hmin, fun k h1 h2 => by omega, fun k h1 h2 => by omega⟩
  refine fx_inv (B := slices_partitionEqualCmpFunc_A4_'o_i_compareCards_L3 n) (fun s => ∃ (i j : Nat) (d : List Card), s = ((a : Int), (i : Int), (j : Int), d) ∧ EI a b i j d0 d)
    (fun s => s.2.2.1.toNat) (EQ a b d0) ?_ n _ ⟨a + 1, b - 1, _, rfl, I0⟩ (big_gt hn (by simp only []; omega))
  clear I0 hsw ea
  rintro self _ ⟨i, j, d, rfl, I⟩ ih
  simp only [slices_partitionEqualCmpFunc_A4_'o_i_compareCards_L3]
  have hjb := I.jb; have hij := I.ij
  refine fx_inv (B := slices_partitionEqualCmpFunc_A4_'o_i_compareCards_L2 n self) (fun s => ∃ (i : Nat), s = ((a : Int), (i : Int), (j : Int), d) ∧ EI a b i j d0 d)
    (fun s => 2000000 - s.2.1.toNat) (EQ a b d0) ?_ n _ ⟨i, rfl, I⟩ (big_gt hn (by simp only []; omega))
  clear I hij
  rintro self2 _ ⟨i, rfl, I⟩ ih2
  have hlen := I.sw.len; have hC := I.sw.allC hd0; have hai := I.ai; have hij := I.ij
  simp only [slices_partitionEqualCmpFunc_A4_'o_i_compareCards_L2, lt_eq]
  by_cases hle : i ≤ j
  · rw [br_pos (decide_eq_true (show (i : Int) ≤ (j : Int) by omega)), ckb_pos (inb_ok (by omega)), ckb_pos (inb_ok (by omega)), toNat_cast, toNat_cast, cmp_at hn hC (by omega) (by omega), ob_some, ob_some]
    by_cases hlt : nm d a - nm d i < 0
    · rw [br_neg (show (!decide (nm d a - nm d i < 0)) = false by rw [decide_eq_true hlt]; rfl)]
      exact eq_L1 hn hd0 hb hl self I (fun _ => by omega) fun j' e hI hj' => ih _ ⟨i + 1, j', e, rfl, hI⟩ (by simp only []; omega)
    · rw [br_pos (show (!decide (nm d a - nm d i < 0)) = true by rw [decide_eq_false hlt]; rfl), w64_succ (by omega)]
      exact ih2 _ ⟨i + 1, rfl, I.up hle (by omega)⟩ (by simp only []; omega)
  · rw [br_neg (decide_eq_false (show ¬ (i : Int) ≤ (j : Int) by omega)), ob_some, br_false]
    exact eq_L1 hn hd0 hb hl self I (fun h => absurd h hle) fun j' e hI hj' => ih _ ⟨i + 1, j', e, rfl, hI⟩ (by simp only []; omega)
end Go.Pl

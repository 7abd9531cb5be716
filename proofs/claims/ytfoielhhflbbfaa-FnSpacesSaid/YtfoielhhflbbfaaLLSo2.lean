/- Plain laws: LSo2. -/
import Derived.Test.YtfoielhhflbbfaaLLSo1
set_option linter.unusedVariables false
set_option linter.unusedSimpArgs false
namespace Go.Pl
open Go Go.Tv Go.RowKit
set_option linter.unusedVariables false
def HeapAt (f h : Nat) (d : List Card) (k : Nat) : Prop := (2 * k + 1 < h → nm d (f + (2 * k + 1)) ≤ nm d (f + k)) ∧ (2 * k + 2 < h → nm d (f + (2 * k + 2)) ≤ nm d (f + k))
def SiftQ (f l h : Nat) (d0 : List Card) (o : Opt (List Card)) : Prop := ∃ d, o = some d ∧ Sw (f + l) (f + h) d0 d ∧ ∀ k, l ≤ k → HeapAt f h d k
structure SiftI (f l h r : Nat) (d0 d : List Card) : Prop where
  lr : l ≤ r
  sw : Sw (f + l) (f + h) d0 d
  hp : ∀ k, l ≤ k → k ≠ r → HeapAt f h d k
  up : ∀ k, l ≤ k → 2 * k + 1 = r ∨ 2 * k + 2 = r → (2 * r + 1 < h → nm d (f + (2 * r + 1)) ≤ nm d (f + k)) ∧ (2 * r + 2 < h → nm d (f + (2 * r + 2)) ≤ nm d (f + k))
theorem sift_J {n : Nat} (hn : BIG ≤ n) {f l h r c : Nat} {d0 d : List Card} (hd0 : AllC d0) (hl : f + h ≤ d0.length) (hl1 : d0.length ≤ 1000000) (I : SiftI f l h r d0 d) (hc : c = 2 * r + 1 ∨ c = 2 * r + 2) (hch : c < h)
    (hmax : (2 * r + 1 < h → nm d (f + (2 * r + 1)) ≤ nm d (f + c)) ∧ (2 * r + 2 < h → nm d (f + (2 * r + 2)) ≤ nm d (f + c))) (self : Int × Int × Int × List Card → Opt (List Card))
    (ih : ∀ e, SiftI f l h c d0 e → SiftQ f l h d0 (self ((h : Int), (f : Int), (c : Int), e))) :
    SiftQ f l h d0 (slices_siftDownCmpFunc_A4_'o_i_compareCards_J1 n self ((h : Int), (f : Int), (r : Int), (c : Int), d)) := by
  have hlen := I.sw.len
  have hC := I.sw.allC hd0
  simp only [slices_siftDownCmpFunc_A4_'o_i_compareCards_J1, lt_eq]
  have e1 : w64 ((f : Int) + (r : Int)) = ((f + r : Nat) : Int) := by rw [w64_id (by omega)]; omega
  have e2 : w64 ((f : Int) + (c : Int)) = ((f + c : Nat) : Int) := by rw [w64_id (by omega)]; omega
  have hlr := I.lr
  rw [e1, e2, ckb_pos (inb_ok (by omega)), ckb_pos (inb_ok (by omega)), toNat_cast, toNat_cast, cmp_at hn hC (by omega) (by omega), ob_some]
  by_cases hlt : nm d (f + r) - nm d (f + c) < 0
  · rw [decide_eq_true hlt, Bool.not_true, br_false, ckb_pos (inb_ok (by omega)), ckb_pos (inb_ok (by omega)), ckb_pos (inb_ok (by omega)), ckb_pos (inb_ok (by rw [List.length_set]; omega))]
    refine ih (swc d (f + r) (f + c)) ⟨by omega, .step I.sw _ _ (by omega) (by omega) (by omega) (by omega) hl, fun k hk hkc => ?_, fun k hk hkc => ?_⟩
    · have h1 : f + r < d.length := by omega
      have h2 : f + c < d.length := by omega
      by_cases hkr : k = r
      · subst hkr
        unfold HeapAt
        rw [nsi h1 h2]
        refine ⟨fun hx => ?_, fun hx => ?_⟩
        · by_cases hx2 : 2 * k + 1 = c
          · rw [hx2, nsj h1 h2]; omega
          · rw [nso h1 h2 (by omega) (by omega)]; exact hmax.1 hx
        · by_cases hx2 : 2 * k + 2 = c
          · rw [hx2, nsj h1 h2]; omega
          · rw [nso h1 h2 (by omega) (by omega)]; exact hmax.2 hx
      · have g := I.hp k hk hkr
        have u := I.up k hk
        unfold HeapAt at g ⊢
        rw [nso h1 h2 (k := f + k) (by omega) (by omega)]
        refine ⟨fun hx => ?_, fun hx => ?_⟩
        · by_cases hkx : 2 * k + 1 = r
          · have u := u (.inl hkx)
            rw [hkx, nsi h1 h2]
            rcases hc with rfl | rfl
            · exact u.1 hch
            · exact u.2 hch
          · rw [nso h1 h2 (by omega) (by omega)]; exact g.1 hx
        · by_cases hkx : 2 * k + 2 = r
          · have u := u (.inr hkx)
            rw [hkx, nsi h1 h2]
            rcases hc with rfl | rfl
            · exact u.1 hch
            · exact u.2 hch
          · rw [nso h1 h2 (by omega) (by omega)]; exact g.2 hx
    · have hkr : k = r := by omega
      subst hkr
      have h1 : f + k < d.length := by omega
      have h2 : f + c < d.length := by omega
      have g := I.hp c (by omega) (by omega)
      unfold HeapAt at g
      rw [nsi h1 h2]
      refine ⟨fun hx => ?_, fun hx => ?_⟩
      · rw [nso h1 h2 (by omega) (by omega)]; exact g.1 hx
      · rw [nso h1 h2 (by omega) (by omega)]; exact g.2 hx
  · rw [decide_eq_false hlt, Bool.not_false, br_true]
    refine ⟨d, rfl, I.sw, fun k hk => ?_⟩
    by_cases hkr : k = r
    · subst hkr; unfold HeapAt; omega
    · exact I.hp k hk hkr
theorem sift_ok {n : Nat} (hn : BIG ≤ n) {f l h : Nat} {d0 : List Card} (hd0 : AllC d0) (hl : f + h ≤ d0.length) (hl1 : d0.length ≤ 1000000) (hl2 : l ≤ 1000000) (pre : ∀ k, l < k → HeapAt f h d0 k) :
    SiftQ f l h d0 (slices_siftDownCmpFunc_A4_'o_i_compareCards n l h f d0) := by
  unfold slices_siftDownCmpFunc_A4_'o_i_compareCards
  refine fx_inv (B := slices_siftDownCmpFunc_A4_'o_i_compareCards_L2 n) (fun s => ∃ (r : Nat) (d : List Card), s = ((h : Int), (f : Int), (r : Int), d) ∧ r ≤ 1000000 ∧ SiftI f l h r d0 d)
    (fun s => 1000001 - s.2.2.1.toNat) (SiftQ f l h d0) ?_ n _ ⟨l, d0, rfl, hl2, Nat.le_refl _, .refl, fun k h1 h2 => pre k (by omega), fun k h1 h2 => by omega⟩ (big_gt hn (by simp only []; omega))
  rintro self _ ⟨r, d, rfl, hr, I⟩ ih
  simp only [slices_siftDownCmpFunc_A4_'o_i_compareCards_L2, lt_eq]
  have hlen := I.sw.len
  have hC := I.sw.allC hd0
  have hlr := I.lr
  have e0 : w64 (2 * (r : Int)) = 2 * (r : Int) := w64_id (by omega)
  have e1 : w64 (2 * (r : Int) + 1) = ((2 * r + 1 : Nat) : Int) := by rw [w64_id (by omega)]; omega
  rw [e0, e1]
  by_cases hch : 2 * r + 1 < h
  · rw [br_neg (decide_eq_false (by omega)), w64_succ (by omega)]
    have ih' : ∀ c e, r < c → c < h → SiftI f l h c d0 e → SiftQ f l h d0 (self ((h : Int), (f : Int), (c : Int), e)) := fun c e h0 h1 h2 => ih _ ⟨c, e, rfl, by omega, h2⟩ (by simp only []; omega)
    by_cases hc2 : 2 * r + 2 < h
    · have e2 : w64 ((f : Int) + ((2 * r + 1 : Nat) : Int)) = ((f + (2 * r + 1) : Nat) : Int) := by rw [w64_id (by omega)]; omega
      have e3 : w64 (((f + (2 * r + 1) : Nat) : Int) + 1) = ((f + (2 * r + 2) : Nat) : Int) := by rw [w64_id (by omega)]; omega
      rw [br_pos (decide_eq_true (by omega)), e2, e3, ckb_pos (inb_ok (by omega)), ckb_pos (inb_ok (by omega)), toNat_cast, toNat_cast, cmp_at hn hC (by omega) (by omega), ob_some, ob_some]
      by_cases hlt : nm d (f + (2 * r + 1)) - nm d (f + (2 * r + 2)) < 0
      · rw [br_pos (decide_eq_true hlt)]
        exact sift_J hn hd0 hl hl1 I (.inr rfl) hc2 (by omega) self fun e he => ih' _ e (by omega) hc2 he
      · rw [br_neg (decide_eq_false hlt)]
        exact sift_J hn hd0 hl hl1 I (.inl rfl) hch (by omega) self fun e he => ih' _ e (by omega) hch he
    · rw [br_neg (decide_eq_false (by omega)), ob_some, br_false]
      exact sift_J hn hd0 hl hl1 I (.inl rfl) hch (by omega) self fun e he => ih' _ e (by omega) hch he
  · rw [br_pos (decide_eq_true (by omega))]
    refine ⟨d, rfl, I.sw, fun k hk => ?_⟩
    by_cases hkr : k = r
    · subst hkr; unfold HeapAt; omega
    · exact I.hp k hk hkr
theorem heap_max {f h : Nat} {d : List Card} (H : ∀ k, HeapAt f h d k) : ∀ m k, k ≤ m → k < h → nm d (f + k) ≤ nm d f := by
  intro m
  induction m with
  | zero => intro k hk _; have : k = 0 := by omega
            subst this; exact Int.le_refl _
  | succ m ih =>
    intro k hk hh
    by_cases h0 : k = 0
    · subst h0; exact Int.le_refl _
    · obtain ⟨p, hp⟩ : ∃ p, k = 2 * p + 1 ∨ k = 2 * p + 2 := ⟨(k - 1) / 2, by omega⟩
      have h1 := ih p (by omega) (by omega)
      have h2 := H p
      unfold HeapAt at h2
      rcases hp with rfl | rfl
      · have := h2.1 hh; omega
      · have := h2.2 hh; omega
theorem heap_ok {n : Nat} (hn : BIG ≤ n) {a b : Nat} {d0 : List Card} (hd0 : AllC d0) (hb : b ≤ d0.length) (hl : d0.length ≤ 1000000) (hab : a < b) :
    Post a b d0 (slices_heapSortCmpFunc_A4_'o_i_compareCards n a b d0) := by
  unfold slices_heapSortCmpFunc_A4_'o_i_compareCards
  simp only [lt_eq]
  obtain ⟨h, rfl⟩ : ∃ h, b = a + h := ⟨b - a, by omega⟩
  have e1 : w64 (((a + h : Nat) : Int) - (a : Int)) = (h : Int) := by rw [w64_id (by omega)]; omega
  have e2 : w64 ((h : Int) - 1) = ((h - 1 : Nat) : Int) := w64_pred (by omega) (by omega)
  have e3 : Int.tdiv ((h - 1 : Nat) : Int) 2 = (((h - 1) / 2 : Nat) : Int) := rfl
  rw [e1, e2, e3, w64_id (by omega)]
  refine fx_inv (B := slices_heapSortCmpFunc_A4_'o_i_compareCards_L2 n) (fun s => ∃ (m : Nat) (d : List Card), s = ((a : Int), (0 : Int), (h : Int), (m : Int) - 1, d) ∧ m ≤ h ∧ Sw a (a + h) d0 d ∧ ∀ k, m ≤ k → HeapAt a h d k)
    (fun s => (s.2.2.2.1 + 1).toNat) (Post a (a + h) d0) ?_ n _ ⟨(h - 1) / 2 + 1, d0, by simp, by omega, .refl, fun k hk => ⟨fun h1 => by omega, fun h1 => by omega⟩⟩ (big_gt hn (by simp only []; omega))
  rintro self _ ⟨m, d, rfl, hm, hsw, hp⟩ ih
  have hlen := hsw.len
  have hC := hsw.allC hd0
  simp only [slices_heapSortCmpFunc_A4_'o_i_compareCards_L2]
  by_cases h0 : m = 0
  · subst h0
    rw [br_neg (decide_eq_false (by omega)), lt_eq, e2]
    refine fx_inv (B := slices_heapSortCmpFunc_A4_'o_i_compareCards_L1 n) (fun s => ∃ (m : Nat) (d : List Card), s = ((a : Int), (0 : Int), (m : Int) - 1, d) ∧ m ≤ h ∧ Sw a (a + h) d0 d ∧ (∀ k, HeapAt a m d k) ∧ ∀ p q, a ≤ p → p < q → a + m ≤ q → q < a + h → nm d p ≤ nm d q)
      (fun s => (s.2.2.1 + 1).toNat) (Post a (a + h) d0) ?_ n _ ⟨h, d, by simp; omega, Nat.le_refl _, hsw, fun k => hp k (Nat.zero_le _), fun p q _ _ _ _ => by omega⟩ (big_gt hn (by simp only []; omega))
    rintro self2 _ ⟨m, d, rfl, hm, hsw, hp, hs⟩ ih2
    have hlen := hsw.len
    have hC := hsw.allC hd0
    simp only [slices_heapSortCmpFunc_A4_'o_i_compareCards_L1]
    by_cases h0 : m = 0
    · subst h0
      rw [br_neg (decide_eq_false (by omega))]
      exact ⟨d, rfl, hsw, fun p q h1 h2 h3 => hs p q h1 h2 (by omega) h3⟩
    · obtain ⟨i, rfl⟩ : ∃ i, m = i + 1 := ⟨m - 1, by omega⟩
      have e4 : (((i + 1 : Nat) : Int) - 1) = (i : Int) := by omega
      have e5 : w64 ((a : Int) + (i : Int)) = ((a + i : Nat) : Int) := by rw [w64_id (by omega)]; omega
      rw [e4, br_pos (decide_eq_true (by omega))]
      simp only [lt_eq]
      rw [e5, ckb_pos (inb_ok (by omega)), ckb_pos (inb_ok (by omega)), ckb_pos (inb_ok (by omega)), ckb_pos (inb_ok (by rw [List.length_set]; omega)), toNat_cast, toNat_cast]
      show Post a (a + h) d0 (ob (slices_siftDownCmpFunc_A4_'o_i_compareCards n ((0 : Nat) : Int) i a (swc d a (a + i))) _)
      have hsw1 : Sw a (a + h) d0 (swc d a (a + i)) := .step hsw _ _ (by omega) (by omega) (by omega) (by omega) hb
      have hlen1 := hsw1.len
      obtain ⟨d2, g1, g2, g3⟩ := sift_ok hn (f := a) (l := 0) (h := i) (d0 := swc d a (a + i)) (hsw1.allC hd0) (by omega) (by omega) (by omega) fun k hk => by
        have o := fun x => nm_swp_or (d := d) (i := a) (j := a + i) (by omega) (by omega) (a + x)
        have o0 := o k; have o1 := o (2 * k + 1); have o2 := o (2 * k + 2)
        have g := hp k
        unfold HeapAt at g ⊢
        omega
      rw [g1, ob_some]
      refine ih2 _ ⟨i, d2, ?_, by omega, hsw1.trans (g2.mono (by omega) (by omega) (by omega)), fun k => g3 k (Nat.zero_le _), fun p q h1 h2 h3 h4 => ?_⟩ (by simp only []; rw [w64_id (by omega)]; omega)
      · rw [w64_id (by omega)]
      · have oq := nm_swp_or (d := d) (i := a) (j := a + i) (by omega) (by omega) q
        have hq : nm d2 q = nm (swc d a (a + i)) q := g2.out (.inr (by omega))
        rw [hq]
        by_cases hp1 : p < a + i
        · refine g2.all (P := fun x => x ≤ nm (swc d a (a + i)) q) (fun k hk1 hk2 => ?_) p (by omega) hp1
          have ok := nm_swp_or (d := d) (i := a) (j := a + i) (by omega) (by omega) k
          obtain ⟨z, rfl⟩ : ∃ z, k = a + z := ⟨k - a, by omega⟩
          have m1 := heap_max hp (i + 1) z (by omega) (by omega)
          have m2 := heap_max hp (i + 1) i (by omega) (by omega)
          have s1 := hs (a + z) q (by omega) (by omega)
          have s2 := hs (a + i) q (by omega)
          have s3 := hs a q (by omega)
          omega
        · have hp2 : nm d2 p = nm (swc d a (a + i)) p := g2.out (.inr (by omega))
          rw [hp2]
          have op := nm_swp_or (d := d) (i := a) (j := a + i) (by omega) (by omega) p
          have s1 := hs p q h1 h2
          have s3 := hs a q (by omega)
          omega
  · obtain ⟨i, rfl⟩ : ∃ i, m = i + 1 := ⟨m - 1, by omega⟩
    have e4 : (((i + 1 : Nat) : Int) - 1) = (i : Int) := by omega
    rw [e4, br_pos (decide_eq_true (by omega))]
    obtain ⟨d2, g1, g2, g3⟩ := sift_ok hn (f := a) (l := i) (h := h) (d0 := d) hC (by omega) (by omega) (by omega) fun k hk => hp k (by omega)
    rw [g1, ob_some, lt_eq]
    refine ih _ ⟨i, d2, ?_, by omega, hsw.trans (g2.mono (by omega) (by omega) (by omega)), g3⟩ (by simp only []; rw [w64_id (by omega)]; omega)
    rw [w64_id (by omega)]
end Go.Pl

/- Plain laws: LSo5. -/
import Derived.Test.YtfoielhhflbbfaaLLSo4
set_option linter.unusedVariables false
set_option linter.unusedSimpArgs false
namespace Go.Pl
open Go Go.Tv Go.RowKit
set_option linter.unusedVariables false
def Low (d : List Card) (a b : Nat) : Prop := ∀ p, p < a → ∀ q, a ≤ q → q < b → nm d p ≤ nm d q
theorem Low.sw {a b : Nat} {d d' : List Card} (h : Low d a b) (hs : Sw a b d d') : Low d' a b := fun p hp q q1 q2 => by
  rw [hs.out (.inl hp)]
  exact hs.all (P := fun x => nm d p ≤ x) (h p hp) q q1 q2
def NQ (a b : Nat) (d0 : List Card) (o : Opt (Bool × List Card)) : Prop := ∃ f d, o = some (f, d) ∧ Sw a b d0 d ∧ (f = true → Srt d a b)
theorem ins_L1 {n : Nat} (hn : BIG ≤ n) {a b i : Nat} (st : Int) {d0 : List Card} (hd0 : AllC d0) (hb : b ≤ d0.length) (hl : d0.length ≤ 1000000) (go : Int × Int × Int × Int × List Card → Opt (Bool × List Card)) (hai : a < i)
    (ih : ∀ e, Sw a b d0 e → Srt e a i → NQ a b d0 (go ((a : Int), (b : Int), (i : Int), w64 (st + 1), e))) {j : Nat} {d : List Card} (hij : i < j) (hjb : j ≤ b) (hsw : Sw a b d0 d) (hs : Srt d a i) :
    NQ a b d0 (fx (slices_partialInsertionSortCmpFunc_A4_'o_i_compareCards_L1 n go) n ((a : Int), (b : Int), (i : Int), st, (j : Int), d)) := by
  refine fx_inv (B := slices_partialInsertionSortCmpFunc_A4_'o_i_compareCards_L1 n go) (fun s => ∃ (j : Nat) (d : List Card), s = ((a : Int), (b : Int), (i : Int), st, (j : Int), d) ∧ i < j ∧ j ≤ b ∧ Sw a b d0 d ∧ Srt d a i)
    (fun s => 2000000 - s.2.2.2.2.1.toNat) (NQ a b d0) ?_ n _ ⟨j, d, rfl, hij, hjb, hsw, hs⟩ (big_gt hn (by simp only []; omega))
  clear hsw hs hij hjb j d
  rintro self _ ⟨j, d, rfl, hij, hjb, hsw, hs⟩ ih2
  have hlen := hsw.len; have hC := hsw.allC hd0
  simp only [slices_partialInsertionSortCmpFunc_A4_'o_i_compareCards_L1, lt_eq]
  by_cases h : j < b
  · rw [br_pos (decide_eq_true (show (j : Int) < (b : Int) by omega)), w64_pred (by omega) (by omega), ckb_pos (inb_ok (by omega)), ckb_pos (inb_ok (by omega)), toNat_cast, toNat_cast, cmp_at hn hC (by omega) (by omega), ob_some]
    by_cases hlt : nm d j - nm d (j - 1) < 0
    · rw [br_neg (show (!decide (nm d j - nm d (j - 1) < 0)) = false by rw [decide_eq_true hlt]; rfl), ckb_pos (inb_ok (by omega)), ckb_pos (inb_ok (by omega)), ckb_pos (inb_ok (by omega)), ckb_pos (inb_ok (by rw [List.length_set]; omega)), w64_succ (by omega)]
      refine ih2 _ ⟨j + 1, swc d j (j - 1), rfl, by omega, by omega, .step hsw _ _ (by omega) (by omega) (by omega) (by omega) hb, fun p q h1 h2 h3 => ?_⟩ (by simp only []; omega)
      rw [nso (by omega) (by omega) (by omega) (by omega), nso (by omega) (by omega) (by omega) (by omega)]
      exact hs p q h1 h2 h3
    · rw [br_pos (show (!decide (nm d j - nm d (j - 1) < 0)) = true by rw [decide_eq_false hlt]; rfl)]
      exact ih d hsw hs
  · rw [br_neg (decide_eq_false (show ¬ (j : Int) < (b : Int) by omega))]
    exact ih d hsw hs
theorem ins_J2 {n : Nat} (hn : BIG ≤ n) {a b i : Nat} (st : Int) {d0 : List Card} (hd0 : AllC d0) (hb : b ≤ d0.length) (hl : d0.length ≤ 1000000) (go : Int × Int × Int × Int × List Card → Opt (Bool × List Card)) (hai : a < i) (hib : i < b)
    (ih : ∀ e, Sw a b d0 e → Srt e a i → NQ a b d0 (go ((a : Int), (b : Int), (i : Int), w64 (st + 1), e))) {d : List Card} (hsw : Sw a b d0 d) (hs : Srt d a i) :
    NQ a b d0 (slices_partialInsertionSortCmpFunc_A4_'o_i_compareCards_J2 n go ((a : Int), (b : Int), (i : Int), st, d)) := by
  simp only [slices_partialInsertionSortCmpFunc_A4_'o_i_compareCards_J2, lt_eq]
  rw [w64_id (x := (b : Int) - (i : Int)) (by omega), w64_succ (by omega), br_dec]
  split
  · exact ins_L1 hn st hd0 hb hl go hai ih (by omega) (by omega) hsw hs
  · exact ih d hsw hs
theorem ins_L3 {n : Nat} (hn : BIG ≤ n) {a b i : Nat} (st : Int) {d0 : List Card} (hd0 : AllC d0) (hb : b ≤ d0.length) (hl : d0.length ≤ 1000000) (hlow : Low d0 a b) (go : Int × Int × Int × Int × List Card → Opt (Bool × List Card)) (hai : a < i) (hib : i < b)
    (ih : ∀ e, Sw a b d0 e → Srt e a i → NQ a b d0 (go ((a : Int), (b : Int), (i : Int), w64 (st + 1), e))) {d : List Card} (hsw : Sw a b d0 d) (H : ∀ p q, a ≤ p → p < q → q < i → q ≠ i - 1 → nm d p ≤ nm d q) :
    NQ a b d0 (fx (slices_partialInsertionSortCmpFunc_A4_'o_i_compareCards_L3 n go) n ((a : Int), (b : Int), (i : Int), st, ((i - 1 : Nat) : Int), d)) := by
  refine fx_inv (B := slices_partialInsertionSortCmpFunc_A4_'o_i_compareCards_L3 n go) (fun s => ∃ (j : Nat) (d : List Card), s = ((a : Int), (b : Int), (i : Int), st, (j : Int), d) ∧ a ≤ j ∧ j < i ∧ Sw a b d0 d ∧ ∀ p q, a ≤ p → p < q → q < i → q ≠ j → nm d p ≤ nm d q)
    (fun s => s.2.2.2.2.1.toNat) (NQ a b d0) ?_ n _ ⟨i - 1, d, rfl, by omega, by omega, hsw, H⟩ (big_gt hn (by simp only []; omega))
  clear hsw H d
  rintro self _ ⟨j, e, rfl, haj, hji, hsw, H⟩ ih2
  have hle := hsw.len; have hc := hsw.allC hd0
  have fin : (a < j → nm e (j - 1) ≤ nm e j) → NQ a b d0 (slices_partialInsertionSortCmpFunc_A4_'o_i_compareCards_J2 n go ((a : Int), (b : Int), (i : Int), st, e)) := fun hx => by
    refine ins_J2 hn st hd0 hb hl go hai hib ih hsw fun p q h1 h2 h3 => ?_
    by_cases hq : q = j
    · have := hx (by omega)
      have h5 := H p (j - 1) h1
      subst hq
      by_cases hp : p = q - 1
      · subst hp; exact this
      · have := h5 (by omega) (by omega) (by omega); omega
    · exact H p q h1 h2 (by omega) hq
  simp only [slices_partialInsertionSortCmpFunc_A4_'o_i_compareCards_L3, lt_eq]
  by_cases h1j : 1 ≤ j
  · rw [br_pos (decide_eq_true (show (1 : Int) ≤ (j : Int) by omega)), w64_pred (by omega) (by omega), ckb_pos (inb_ok (by omega)), ckb_pos (inb_ok (by omega)), toNat_cast, toNat_cast, cmp_at hn hc (by omega) (by omega), ob_some]
    by_cases hlt : nm e j - nm e (j - 1) < 0
    · have hja : a < j := by
        refine Nat.lt_of_not_le fun h => ?_
        have hja : j = a := by omega
        have := hlow.sw hsw (j - 1) (by omega) j (by omega) (by omega)
        omega
      rw [br_neg (show (!decide (nm e j - nm e (j - 1) < 0)) = false by rw [decide_eq_true hlt]; rfl), ckb_pos (inb_ok (by omega)), ckb_pos (inb_ok (by omega)), ckb_pos (inb_ok (by omega)), ckb_pos (inb_ok (by rw [List.length_set]; omega))]
      refine ih2 _ ⟨j - 1, swc e j (j - 1), rfl, by omega, by omega, .step hsw j (j - 1) (by omega) (by omega) (by omega) (by omega) hb, fun p q h1 h2 h3 h4 => ?_⟩ (by simp only []; omega)
      have o1 := nm_swp_or (d := e) (i := j) (j := j - 1) (by omega) (by omega) p
      have o2 := nm_swp_or (d := e) (i := j) (j := j - 1) (by omega) (by omega) q
      have e1 := H p q h1 h2 h3
      have e2 := H p (j - 1) h1
      have e3 := H (j - 1) q (by omega)
      have e4 := H j q (by omega)
      omega
    · rw [br_pos (show (!decide (nm e j - nm e (j - 1) < 0)) = true by rw [decide_eq_false hlt]; rfl)]
      exact fin fun _ => by omega
  · rw [br_neg (decide_eq_false (show ¬ (1 : Int) ≤ (j : Int) by omega))]
    exact fin fun h => by omega
theorem part_ins_ok {n : Nat} (hn : BIG ≤ n) {a b : Nat} {d0 : List Card} (hd0 : AllC d0) (hb : b ≤ d0.length) (hl : d0.length ≤ 1000000) (hab : a < b) (hlow : Low d0 a b) :
    NQ a b d0 (slices_partialInsertionSortCmpFunc_A4_'o_i_compareCards n a b d0) := by
  unfold slices_partialInsertionSortCmpFunc_A4_'o_i_compareCards
  rw [lt_eq, w64_succ (by omega)]
  refine fx_inv (B := slices_partialInsertionSortCmpFunc_A4_'o_i_compareCards_L5 n) (fun s => ∃ (i st : Nat) (d : List Card), s = ((a : Int), (b : Int), (i : Int), (st : Int), d) ∧ a < i ∧ i ≤ b ∧ st ≤ 5 ∧ Sw a b d0 d ∧ Srt d a i)
    (fun s => 10 - s.2.2.2.1.toNat) (NQ a b d0) ?_ n _ ⟨a + 1, 0, d0, rfl, by omega, by omega, by omega, .refl, fun p q _ _ _ => by omega⟩ (big_gt hn (by simp only []; omega))
  rintro self _ ⟨i, st, d, rfl, hai, hib, hst, hsw, hs⟩ ih
  simp only [slices_partialInsertionSortCmpFunc_A4_'o_i_compareCards_L5]
  by_cases h5 : st < 5
  · rw [br_pos (decide_eq_true (show (st : Int) < 5 by omega))]
    refine fx_inv (B := slices_partialInsertionSortCmpFunc_A4_'o_i_compareCards_L4 n self) (fun s => ∃ (i : Nat), s = ((a : Int), (b : Int), (i : Int), (st : Int), d) ∧ a < i ∧ i ≤ b ∧ Srt d a i)
      (fun s => 2000000 - s.2.2.1.toNat) (NQ a b d0) ?_ n _ ⟨i, rfl, hai, hib, hs⟩ (big_gt hn (by simp only []; omega))
    clear hai hib hs
    rintro self2 _ ⟨i, rfl, hai, hib, hs⟩ ih2
    have hlen := hsw.len; have hC := hsw.allC hd0
    simp only [slices_partialInsertionSortCmpFunc_A4_'o_i_compareCards_L4, lt_eq]
    by_cases hi : i < b
    · rw [br_pos (decide_eq_true (show (i : Int) < (b : Int) by omega)), w64_pred (by omega) (by omega), ckb_pos (inb_ok (by omega)), ckb_pos (inb_ok (by omega)), toNat_cast, toNat_cast, cmp_at hn hC (by omega) (by omega), ob_some, ob_some]
      by_cases hlt : nm d i - nm d (i - 1) < 0
      · rw [br_neg (show (!decide (nm d i - nm d (i - 1) < 0)) = false by rw [decide_eq_true hlt]; rfl), br_neg (decide_eq_false (show ¬ (i : Int) = (b : Int) by omega)), br_dec]
        split
        · exact ⟨false, d, rfl, hsw, fun h => by cases h⟩
        · rw [ckb_pos (inb_ok (by omega)), ckb_pos (inb_ok (by omega)), ckb_pos (inb_ok (by omega)), ckb_pos (inb_ok (by rw [List.length_set]; omega)), w64_id (x := (i : Int) - (a : Int)) (by omega)]
          have hsw2 : Sw a b d0 (swc d i (i - 1)) := by
            by_cases hia : a ≤ i - 1
            · exact .step hsw _ _ (by omega) (by omega) (by omega) (by omega) hb
            · omega
          have H : ∀ p q, a ≤ p → p < q → q < i → q ≠ i - 1 → nm (swc d i (i - 1)) p ≤ nm (swc d i (i - 1)) q := fun p q h1 h2 h3 h4 => by
            rw [nso (by omega) (by omega) (by omega) (by omega), nso (by omega) (by omega) (by omega) (by omega)]
            exact hs p q h1 h2 h3
          have ihn : ∀ e, Sw a b d0 e → Srt e a i → NQ a b d0 (self ((a : Int), (b : Int), (i : Int), w64 ((st : Int) + 1), e)) := fun e h1 h2 => by
            rw [w64_succ (by omega)]
            exact ih _ ⟨i, st + 1, e, rfl, hai, hib, by omega, h1, h2⟩ (by simp only []; omega)
          rw [br_dec]
          split
          · exact ins_L3 hn (st : Int) hd0 hb hl hlow self hai hi ihn hsw2 H
          · exact ins_J2 hn (st : Int) hd0 hb hl self hai hi ihn hsw2 fun p q h1 h2 h3 => by omega
      · rw [br_pos (show (!decide (nm d i - nm d (i - 1) < 0)) = true by rw [decide_eq_false hlt]; rfl), w64_succ (by omega)]
        refine ih2 _ ⟨i + 1, rfl, by omega, by omega, fun p q h1 h2 h3 => ?_⟩ (by simp only []; omega)
        by_cases hq : q = i
        · subst hq
          by_cases hp : p = q - 1
          · subst hp; omega
          · have := hs p (q - 1) h1 (by omega) (by omega); omega
        · exact hs p q h1 h2 (by omega)
    · have hib2 : i = b := by omega
      subst hib2
      rw [br_neg (decide_eq_false (show ¬ (i : Int) < (i : Int) by omega)), ob_some, br_false, br_pos (decide_eq_true rfl)]
      exact ⟨true, d, rfl, hsw, fun _ => hs⟩
  · rw [br_neg (decide_eq_false (show ¬ (st : Int) < 5 by omega))]
    exact ⟨false, d, rfl, hsw, fun h => by cases h⟩
def Done (a0 b0 a b : Nat) (d : List Card) : Prop := (∀ p, a0 ≤ p → p < a → ∀ q, p < q → q < b0 → nm d p ≤ nm d q) ∧ ∀ q, b ≤ q → q < b0 → ∀ p, a0 ≤ p → p < q → nm d p ≤ nm d q
theorem Done.sw {a0 b0 a b : Nat} {d d' : List Card} (h : Done a0 b0 a b d) (hs : Sw a b d d') (ha : a0 ≤ a) (hb : b ≤ b0) : Done a0 b0 a b d' := by
  obtain ⟨h1, h2⟩ := h
  refine ⟨fun p p1 p2 q q1 q2 => ?_, fun q q1 q2 p p1 p2 => ?_⟩
  · rw [hs.out (.inl p2)]
    by_cases hq : a ≤ q ∧ q < b
    · exact hs.all (P := fun x => nm d p ≤ x) (fun k k1 k2 => h1 p p1 p2 k (by omega) (by omega)) q hq.1 hq.2
    · rw [hs.out (by omega)]; exact h1 p p1 p2 q q1 q2
  · rw [hs.out (k := q) (.inr q1)]
    by_cases hq : a ≤ p ∧ p < b
    · exact hs.all (P := fun x => x ≤ nm d q) (fun k k1 k2 => h2 q q1 q2 k (by omega) (by omega)) p hq.1 hq.2
    · rw [hs.out (k := p) (by omega)]; exact h2 q q1 q2 p p1 p2
theorem Done.fin {a0 b0 a b : Nat} {d : List Card} (h : Done a0 b0 a b d) (hs : Srt d a b) : Srt d a0 b0 := fun p q p1 p2 p3 => by
  by_cases hp : p < a
  · exact h.1 p p1 hp q p2 p3
  · by_cases hq : b ≤ q
    · exact h.2 q hq p3 p p1 p2
    · exact hs p q (by omega) p2 (by omega)
structure QI (a0 b0 a b : Nat) (d0 d : List Card) : Prop where
  ha : a0 ≤ a
  ab : a ≤ b
  hb : b ≤ b0
  sw : Sw a0 b0 d0 d
  low : Low d a b
  dn : Done a0 b0 a b d
theorem QI.sws {a0 b0 a b : Nat} {d0 d d' : List Card} (I : QI a0 b0 a b d0 d) (hs : Sw a b d d') (hl : b0 ≤ d0.length) : QI a0 b0 a b d0 d' :=
  ⟨I.ha, I.ab, I.hb, I.sw.trans (hs.mono I.ha I.hb (by rw [I.sw.len]; exact hl)), I.low.sw hs, I.dn.sw hs I.ha I.hb⟩
theorem QI.out {a0 b0 a b : Nat} {d0 d : List Card} (I : QI a0 b0 a b d0 d) {o : Opt (List Card)} (h : Post a b d o) (hl : b0 ≤ d0.length) : Post a0 b0 d0 o := by
  obtain ⟨e, rfl, h1, h2⟩ := h
  have I2 := I.sws h1 hl
  exact ⟨e, rfl, I2.sw, I2.dn.fin h2⟩
theorem pdq_J1 {n : Nat} (hn : BIG ≤ n) {a0 b0 : Nat} {d0 : List Card} (hd0 : AllC d0) (hl : d0.length ≤ 200) (hb0 : b0 ≤ d0.length) (go0 : Int × Int × Int × List Card → Opt (List Card)) (go : Int × Int × Int × Bool × Bool × List Card → Opt (List Card)) (lim : Nat)
    (hlm : lim ≤ 100) (ih0 : ∀ lim : Nat, lim ≤ 100 → ∀ (a b : Nat) (d : List Card), AllC d → d.length = d0.length → b ≤ d.length → a ≤ b → b - a < b0 - a0 → Low d a b → Post a b d (go0 ((a : Int), (b : Int), (lim : Int), d)))
    {a b p : Nat} (wb wp : Bool) (len : Int) {d : List Card} (I : QI a0 b0 a b d0 d) (hp : a ≤ p) (hpb : p < b)
    (ih : ∀ (a' b' : Nat) (wb wp : Bool) (d' : List Card), QI a0 b0 a' b' d0 d' → b' - a' < b - a → Post a0 b0 d0 (go ((a' : Int), (b' : Int), (lim : Int), wb, wp, d'))) :
    Post a0 b0 d0 (slices_pdqsortCmpFunc_A4_'o_i_compareCards_J1 n go0 go ((a : Int), (b : Int), (lim : Int), wb, wp, len, (p : Int), d)) := by
  have hlen := I.sw.len; have hC := I.sw.allC hd0; have hbb := I.hb; have haa := I.ha
  have hparts : Post a0 b0 d0 (ob (slices_partitionCmpFunc_A4_'o_i_compareCards n a b p d) fun (r18 : Int × Bool × (List (V4 Int))) => Tv.lt (w64 (r18.1 - a)) fun (x19 : Int) => Tv.lt (w64 (b - r18.1)) fun (x20 : Int) => Tv.lt (w64 (Int.tdiv len 8)) fun (x21 : Int) =>
      br (decide (x19 < x20)) (ob (go0 ((a : Int), r18.1, (lim : Int), r18.2.2)) fun (r22 : (List (V4 Int))) => Tv.lt (w64 (r18.1 + 1)) fun (x23 : Int) => go (x23, (b : Int), (lim : Int), (decide (x21 ≤ x19)), r18.2.1, r22))
        (Tv.lt (w64 (r18.1 + 1)) fun (x24 : Int) => ob (go0 (x24, (b : Int), (lim : Int), r18.2.2)) fun (r25 : (List (V4 Int))) => go ((a : Int), r18.1, (lim : Int), (decide (x21 ≤ x20)), r18.2.1, r25))) := by
    obtain ⟨m, f, e, g, hm, hmb, hse, h1, h2⟩ := part_ok hn (d0 := d) hC (b := b) (by omega) (by omega) hp hpb
    rw [g, ob_some]
    simp only [lt_eq]
    have I2 := I.sws hse hb0
    have hl2 := I2.sw.len; have hC2 := I2.sw.allC hd0
    rw [w64_succ (by omega), br_dec]
    split
    · -- the left part first
      obtain ⟨e2, g2, hs2, hsr⟩ := ih0 lim hlm a m e hC2 hl2 (by omega) (by omega) (by omega) fun x hx q q1 q2 => I2.low x hx q q1 (by omega)
      rw [g2, ob_some]
      have hse2 : Sw a b e e2 := hs2.mono (Nat.le_refl _) (by omega) (by omega)
      have I3 := I2.sws hse2 hb0
      have kq : ∀ q, m ≤ q → nm e2 q = nm e q := fun q hq => hs2.out (.inr hq)
      have kp : ∀ x, a ≤ x → x < m → nm e2 x < nm e m := hs2.all (P := fun x => x < nm e m) h1
      have kall : ∀ q, m ≤ q → q < b → ∀ x, a ≤ x → x ≤ m → nm e2 x ≤ nm e2 q := fun q q1 q2 x x1 x2 => by
        rw [kq q q1]
        have t : nm e m ≤ nm e q := by
          by_cases hqm : q = m
          · subst hqm; exact Int.le_refl _
          · exact h2 q (by omega) q2
        by_cases hxm : x = m
        · subst hxm; rw [kq x (Nat.le_refl _)]; exact t
        · have := kp x x1 (by omega); omega
      refine ih (m + 1) b _ _ e2 ⟨by omega, by omega, hbb, I3.sw, fun x hx q q1 q2 => ?_, ?_, ?_⟩ (by omega)
      · by_cases hxa : x < a
        · exact I3.low x hxa q (by omega) q2
        · exact kall q (by omega) q2 x (by omega) (by omega)
      · intro x x1 x2 q q1 q2
        by_cases hxa : x < a
        · exact I3.dn.1 x x1 hxa q q1 q2
        · by_cases hqb : b ≤ q
          · exact I3.dn.2 q hqb q2 x x1 q1
          · by_cases hqm : q < m
            · exact hsr x q (by omega) q1 hqm
            · exact kall q (by omega) (by omega) x (by omega) (by omega)
      · intro q q1 q2 x x1 x2
        exact I3.dn.2 q q1 q2 x x1 x2
    · obtain ⟨e2, g2, hs2, hsr⟩ := ih0 lim hlm (m + 1) b e hC2 hl2 (by omega) (by omega) (by omega) fun x hx q q1 q2 => by
        by_cases hxa : x < a
        · exact I2.low x hxa q (by omega) q2
        · have t1 := h2 q (by omega) q2
          by_cases hxm : x = m
          · subst hxm; exact t1
          · have := h1 x (by omega) (by omega); omega
      rw [g2, ob_some]
      have hse2 : Sw a b e e2 := hs2.mono (by omega) (Nat.le_refl _) (by omega)
      have I3 := I2.sws hse2 hb0
      have kq : ∀ q, q ≤ m → nm e2 q = nm e q := fun q hq => hs2.out (.inl (by omega))
      have kp : ∀ x, m + 1 ≤ x → x < b → nm e m ≤ nm e2 x := hs2.all (P := fun x => nm e m ≤ x) fun k k1 k2 => h2 k (by omega) k2
      have kall : ∀ x, a ≤ x → x ≤ m → ∀ q, m ≤ q → q < b → nm e2 x ≤ nm e2 q := fun x x1 x2 q q1 q2 => by
        rw [kq x x2]
        have t : nm e x ≤ nm e m := by
          by_cases hxm : x = m
          · subst hxm; exact Int.le_refl _
          · have := h1 x x1 (by omega); omega
        by_cases hqm : q = m
        · subst hqm; rw [kq q (Nat.le_refl _)]; exact t
        · have := kp q (by omega) q2; omega
      refine ih a m _ _ e2 ⟨haa, by omega, by omega, I3.sw, fun x hx q q1 q2 => I3.low x hx q q1 (by omega), ?_, ?_⟩ (by omega)
      · intro x x1 x2 q q1 q2
        exact I3.dn.1 x x1 x2 q q1 q2
      · intro q q1 q2 x x1 x2
        by_cases hxa : x < a
        · exact I3.dn.1 x x1 hxa q x2 q2
        · by_cases hqb : b ≤ q
          · exact I3.dn.2 q hqb q2 x x1 x2
          · by_cases hxm : x ≤ m
            · exact kall x (by omega) hxm q q1 (by omega)
            · exact hsr x q (by omega) x2 (by omega)
  simp only [slices_pdqsortCmpFunc_A4_'o_i_compareCards_J1]
  by_cases h0 : 0 < a
  · rw [br_pos (decide_eq_true (show (0 : Int) < (a : Int) by omega)), lt_eq, w64_pred (by omega) (by omega), ckb_pos (inb_ok (by omega)), ckb_pos (inb_ok (by omega)), toNat_cast, toNat_cast, cmp_at hn hC (by omega) (by omega), ob_some, ob_some]
    by_cases hlt : nm d (a - 1) - nm d p < 0
    · rw [br_neg (show (!decide (nm d (a - 1) - nm d p < 0)) = false by rw [decide_eq_true hlt]; rfl)]
      exact hparts
    · rw [br_pos (show (!decide (nm d (a - 1) - nm d p < 0)) = true by rw [decide_eq_false hlt]; rfl)]
      obtain ⟨m, e, g, h1, h2, hse, hmn⟩ := eq_ok hn (d0 := d) hC (a := a) (b := b) (p := p) (by omega) (by omega) hp hpb fun k k1 k2 => by
        have := I.low (a - 1) (by omega) k k1 k2; omega
      rw [g, ob_some]
      have I2 := I.sws hse hb0
      refine ih m b _ _ e ⟨by omega, by omega, hbb, I2.sw, fun x hx q q1 q2 => ?_, fun x x1 x2 q q1 q2 => ?_, fun q q1 q2 x x1 x2 => I2.dn.2 q q1 q2 x x1 x2⟩ (by omega)
      · by_cases hxa : x < a
        · exact I2.low x hxa q (by omega) q2
        · exact hmn x (by omega) hx q (by omega) q2
      · by_cases hxa : x < a
        · exact I2.dn.1 x x1 hxa q q1 q2
        · by_cases hqb : b ≤ q
          · exact I2.dn.2 q hqb q2 x x1 q1
          · exact hmn x (by omega) x2 q (by omega) (by omega)
  · rw [br_neg (decide_eq_false (show ¬ (0 : Int) < (a : Int) by omega)), ob_some, br_false]
    exact hparts
theorem pdq_J2 {n : Nat} (hn : BIG ≤ n) {a0 b0 : Nat} {d0 : List Card} (hd0 : AllC d0) (hl : d0.length ≤ 200) (hb0 : b0 ≤ d0.length) (go0 : Int × Int × Int × List Card → Opt (List Card)) (go : Int × Int × Int × Bool × Bool × List Card → Opt (List Card)) (lim : Nat)
    (hlm : lim ≤ 100) (ih0 : ∀ lim : Nat, lim ≤ 100 → ∀ (a b : Nat) (d : List Card), AllC d → d.length = d0.length → b ≤ d.length → a ≤ b → b - a < b0 - a0 → Low d a b → Post a b d (go0 ((a : Int), (b : Int), (lim : Int), d)))
    {a b p : Nat} (wb wp : Bool) (len hint : Int) {d : List Card} (I : QI a0 b0 a b d0 d) (hp : a ≤ p) (hpb : p < b)
    (ih : ∀ (a' b' : Nat) (wb wp : Bool) (d' : List Card), QI a0 b0 a' b' d0 d' → b' - a' < b - a → Post a0 b0 d0 (go ((a' : Int), (b' : Int), (lim : Int), wb, wp, d'))) :
    Post a0 b0 d0 (slices_pdqsortCmpFunc_A4_'o_i_compareCards_J2 n go0 go ((a : Int), (b : Int), (lim : Int), wb, wp, len, (p : Int), hint, d)) := by
  have hlen := I.sw.len; have hC := I.sw.allC hd0; have hbb := I.hb; have haa := I.ha
  simp only [slices_pdqsortCmpFunc_A4_'o_i_compareCards_J2, br_some, ob_some]
  generalize (if (if wb = true then wp else false) = true then decide (hint = 1) else false) = c
  cases c with
  | false => exact pdq_J1 hn hd0 hl hb0 go0 go lim hlm ih0 wb wp len I hp hpb ih
  | true =>
    rw [br_true]
    obtain ⟨f, e, g, hse, hs⟩ := part_ins_ok hn (d0 := d) hC (a := a) (b := b) (by omega) (by omega) (by omega) I.low
    rw [g, ob_some]
    cases f with
    | true => exact I.out ⟨e, rfl, hse, hs rfl⟩ hb0
    | false => exact pdq_J1 hn hd0 hl hb0 go0 go lim hlm ih0 wb wp len (I.sws hse hb0) hp hpb ih
theorem pdq_J3 {n : Nat} (hn : BIG ≤ n) {a0 b0 : Nat} {d0 : List Card} (hd0 : AllC d0) (hl : d0.length ≤ 200) (hb0 : b0 ≤ d0.length) (go0 : Int × Int × Int × List Card → Opt (List Card)) (go : Int × Int × Int × Bool × Bool × List Card → Opt (List Card)) (lim : Nat)
    (hlm : lim ≤ 100) (ih0 : ∀ lim : Nat, lim ≤ 100 → ∀ (a b : Nat) (d : List Card), AllC d → d.length = d0.length → b ≤ d.length → a ≤ b → b - a < b0 - a0 → Low d a b → Post a b d (go0 ((a : Int), (b : Int), (lim : Int), d)))
    {a b : Nat} (wb wp : Bool) (len : Int) {d : List Card} (I : QI a0 b0 a b d0 d) (h12 : a + 12 < b)
    (ih : ∀ (a' b' : Nat) (wb wp : Bool) (d' : List Card), QI a0 b0 a' b' d0 d' → b' - a' < b - a → Post a0 b0 d0 (go ((a' : Int), (b' : Int), (lim : Int), wb, wp, d'))) :
    Post a0 b0 d0 (slices_pdqsortCmpFunc_A4_'o_i_compareCards_J3 n go0 go ((a : Int), (b : Int), (lim : Int), wb, wp, len, d)) := by
  have hlen := I.sw.len; have hC := I.sw.allC hd0; have hbb := I.hb; have haa := I.ha
  simp only [slices_pdqsortCmpFunc_A4_'o_i_compareCards_J3, lt_eq]
  obtain ⟨p, h, g, hp, hpb⟩ := pivot_ok hn hC (a := a) (b := b) (by omega) (by omega) (by omega)
  rw [g, ob_some, br_dec]
  split
  · obtain ⟨e, g2, hse⟩ := reverse_ok hn (a := a) (b := b) (d0 := d) (by omega) (by omega) (by omega)
    rw [g2, ob_some]
    have ep : w64 (w64 ((b : Int) - 1) - w64 ((p : Int) - (a : Int))) = ((b - 1 - (p - a) : Nat) : Int) := by
      rw [w64_id (x := (b : Int) - 1) (by omega), w64_id (x := (p : Int) - (a : Int)) (by omega), w64_id (by omega)]; omega
    simp only []
    rw [ep]
    exact pdq_J2 hn hd0 hl hb0 go0 go lim hlm ih0 wb wp len 1 (I.sws hse hb0) (by omega) (by omega) ih
  · exact pdq_J2 hn hd0 hl hb0 go0 go lim hlm ih0 wb wp len h I hp hpb ih
theorem pdq_ok {n : Nat} (hn : BIG ≤ n) {a b lim : Nat} {d0 : List Card} (hd0 : AllC d0) (hl : d0.length ≤ 200) (hb : b ≤ d0.length) (hab : a ≤ b) (hlim : lim ≤ 100) (hlow : Low d0 a b) :
    Post a b d0 (slices_pdqsortCmpFunc_A4_'o_i_compareCards n a b lim d0) := by
  unfold slices_pdqsortCmpFunc_A4_'o_i_compareCards
  have key : ∀ k (a b lim : Nat) (d0 : List Card), b - a < k → lim ≤ 100 → AllC d0 → d0.length ≤ 200 → b ≤ d0.length → a ≤ b → Low d0 a b → Post a b d0 (fx (slices_pdqsortCmpFunc_A4_'o_i_compareCards_R n) k ((a : Int), (b : Int), (lim : Int), d0)) := by
    intro k
    induction k with
    | zero => intro a b lim d0 h; omega
    | succ k IH =>
      intro a0 b0 lim0 d0 hk hlim hd0 hl hb hab hlow
      rw [fx_succ]
      simp only [slices_pdqsortCmpFunc_A4_'o_i_compareCards_R]
      refine fx_inv (B := slices_pdqsortCmpFunc_A4_'o_i_compareCards_L4 n (fx (slices_pdqsortCmpFunc_A4_'o_i_compareCards_R n) k)) (fun s => ∃ (a b lim : Nat) (wb wp : Bool) (d : List Card), s = ((a : Int), (b : Int), (lim : Int), wb, wp, d) ∧ lim ≤ 100 ∧ QI a0 b0 a b d0 d)
        (fun s => (s.2.1 - s.1).toNat) (Post a0 b0 d0) ?_ n _ ⟨a0, b0, lim0, true, true, d0, rfl, hlim, Nat.le_refl _, hab, Nat.le_refl _, .refl, hlow, fun p p1 p2 => by omega, fun q q1 q2 => by omega⟩ (big_gt hn (by simp only []; omega))
      rintro self _ ⟨a, b, lim, wb, wp, d, rfl, hlm, I⟩ ih
      have hlen := I.sw.len; have hC := I.sw.allC hd0; have hbb := I.hb; have haa := I.ha; have hab2 := I.ab
      simp only [slices_pdqsortCmpFunc_A4_'o_i_compareCards_L4, lt_eq]
      rw [w64_id (x := (b : Int) - (a : Int)) (by omega)]
      by_cases h12 : a + 12 < b
      · rw [br_neg (decide_eq_false (show ¬ (b : Int) - (a : Int) ≤ 12 by omega))]
        by_cases h0 : lim = 0
        · rw [br_pos (decide_eq_true (show (lim : Int) = 0 by omega))]
          obtain ⟨e, g, h⟩ := heap_ok hn (a := a) (b := b) hC (by omega) (by omega) (by omega)
          rw [g, ob_some]
          exact I.out ⟨e, rfl, h⟩ hb
        · rw [br_neg (decide_eq_false (show ¬ (lim : Int) = 0 by omega))]
          have ihn : ∀ lm, lm ≤ 100 → ∀ (a' b' : Nat) (wb wp : Bool) (d' : List Card), QI a0 b0 a' b' d0 d' → b' - a' < b - a → Post a0 b0 d0 (self ((a' : Int), (b' : Int), ((lm : Nat) : Int), wb, wp, d')) := fun lm hlm a' b' wb wp d' I' hlt =>
            ih _ ⟨a', b', lm, wb, wp, d', rfl, hlm, I'⟩ (by have := I'.ab; simp only []; omega)
          have ih0 : ∀ lm, lm ≤ 100 → ∀ (a b : Nat) (d : List Card), AllC d → d.length = d0.length → b ≤ d.length → a ≤ b → b - a < b0 - a0 → Low d a b → Post a b d (fx (slices_pdqsortCmpFunc_A4_'o_i_compareCards_R n) k ((a : Int), (b : Int), ((lm : Nat) : Int), d)) :=
            fun lm hlm a b d h1 h2 h3 h4 h5 h6 => IH a b lm d (by omega) hlm h1 (by omega) h3 h4 h6
          cases wb with
          | true =>
            rw [Bool.not_true, br_false]
            exact pdq_J3 hn hd0 hl hb _ self lim hlm ih0 true wp _ I h12 (ihn lim hlm)
          | false =>
            rw [Bool.not_false, br_true]
            obtain ⟨e, g, hse⟩ := break_ok hn (a := a) (b := b) (d0 := d) (by omega) (by omega) (by omega)
            rw [g, ob_some, w64_pred (by omega) (by omega)]
            exact pdq_J3 hn hd0 hl hb _ self (lim - 1) (by omega) ih0 false wp _ (I.sws hse hb) h12 (ihn (lim - 1) (by omega))
      · rw [br_pos (decide_eq_true (show (b : Int) - (a : Int) ≤ 12 by omega))]
        obtain ⟨e, g, h⟩ := insertion_ok hn (a := a) (b := b) hC (by omega) (by omega) (by omega)
        rw [g, ob_some]
        exact I.out ⟨e, rfl, h⟩ hb
  exact key n a b lim d0 (big_gt hn (by omega)) hlim hd0 hl hb hab hlow
theorem sortFunc_ok {n : Nat} (hn : BIG ≤ n) {d0 : List Card} (hd0 : AllC d0) (hl : d0.length ≤ 200) : Post 0 d0.length d0 (slices_SortFunc_SA4_A4_'o_i_compareCards n d0) := by
  unfold slices_SortFunc_SA4_A4_'o_i_compareCards
  obtain ⟨r, hr, hr2⟩ := bitsLen_ok n (m := d0.length) hl
  rw [lt_eq, hr, ob_some]
  obtain ⟨e, g, h⟩ := pdq_ok hn (a := 0) (b := d0.length) (lim := r) hd0 hl (Nat.le_refl _) (Nat.zero_le _) hr2 fun p hp => by omega
  have g' : slices_pdqsortCmpFunc_A4_'o_i_compareCards n 0 (d0.length : Int) (r : Int) d0 = some e := g
  rw [g', ob_some]
  exact ⟨e, rfl, h⟩
end Go.Pl

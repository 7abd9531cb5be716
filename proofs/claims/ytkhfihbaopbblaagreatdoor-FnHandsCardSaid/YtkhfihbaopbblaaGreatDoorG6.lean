/- Plain laws: LSo5, LSo6, LSpn, LCap. -/
import Derived.Test.YtkhfihbaopbblaaGreatDoorG5
import Derived.Test.YtkhfihbaopbblaaGreatDoorG3
import Derived.Test.YtkhfihbaopbblaaGreatDoorG2
import Derived.KernelRfl
set_option linter.unusedVariables false
set_option linter.unusedSimpArgs false
namespace Go.Pl
open Go Go.Tv Go.RowKit
set_option linter.unusedVariables false
def Low (d : List Card) (a b : Nat) : Prop := ∀ p, p < a → ∀ q, a ≤ q → q < b → nm d p ≤ nm d q
theorem Low.sw {a b : Nat} {d d' : List Card} (h : Low d a b) (hs : Sw a b d d') : Low d' a b := fun p hp q q1 q2 => by
  rw [hs.out (.inl hp)]
  exact hs.all (P := fun x => nm d p ≤ x) (h p hp) q q1 q2
def NQ (a b : Nat) (d0 : List Card) (o : Opt (Bool × List Card)) : Prop := ∃ f d, o = some (f, d) ∧ Sw a b d0 d ∧ (f = true → Srt d a b)
theorem ins_L1 {n : Nat} (hn : BIG ≤ n) {a b i : Nat} (st : Int) {d0 : List Card} (hd0 : AllC d0) (hb : b ≤ d0.length) (hl : d0.length ≤ 1000000) (go : Int × Int × Int × Int × List Card → Opt (Bool × List Card)) (hai : a < i)
    (ih : ∀ e, Sw a b d0 e → Srt e a i → NQ a b d0 (go ((a : Int), (b : Int), (i : Int), w64 (st + 1), e))) {j : Nat} {d : List Card} (hij : i < j) (hjb : j ≤ b) (hsw : Sw a b d0 d) (hs : Srt d a i) :
    NQ a b d0 (fx (slices_partialInsertionSortCmpFunc_A4_'o_i_compareCards_L1 n go) n ((a : Int), (b : Int), (i : Int), st, (j : Int), d)) := by
  refine fx_inv (B := slices_partialInsertionSortCmpFunc_A4_'o_i_compareCards_L1 n go) (fun s => ∃ (j : Nat) (d : List Card), s = ((a : Int), (b : Int), (i : Int), st, (j : Int), d) ∧ i < j ∧ j ≤ b ∧ Sw a b d0 d ∧ Srt d a i)
    (fun s => 2000000 - s.2.2.2.2.1.toNat) (NQ a b d0) ?_ n _ ⟨j, d, rfl, hij, hjb, hsw, hs⟩ (big_gt hn (by simp only []; omega))
  clear hsw hs hij hjb j d
  rintro self _ ⟨j, d, rfl, hij, hjb, hsw, hs⟩ ih2
  have hlen := hsw.len; have hC := hsw.allC hd0
  simp only [slices_partialInsertionSortCmpFunc_A4_'o_i_compareCards_L1, lt_eq]
  by_cases h : j < b
  · rw [br_pos (decide_eq_true (show (j : Int) < (b : Int) by omega)), w64_pred (by omega) (by omega), ckb_pos (inb_ok (by omega)), ckb_pos (inb_ok (by omega)), toNat_cast, toNat_cast, cmp_at hn hC (by omega) (by omega), ob_some]
    by_cases hlt : nm d j - nm d (j - 1) < 0
    · rw [br_neg (show (!decide (nm d j - nm d (j - 1) < 0)) = false by rw [decide_eq_true hlt]; rfl), ckb_pos (inb_ok (by omega)), ckb_pos (inb_ok (by omega)), ckb_pos (inb_ok (by omega)), ckb_pos (inb_ok (by rw [List.length_set]; omega)), w64_succ (by omega)]
      refine ih2 _ ⟨j + 1, swc d j (j - 1), rfl, by omega, by omega, .step hsw _ _ (by omega) (by omega) (by omega) (by omega) hb, fun p q h1 h2 h3 => ?_⟩ (by simp only []; omega)
      rw [nso (by omega) (by omega) (by omega) (by omega), nso (by omega) (by omega) (by omega) (by omega)]
      exact hs p q h1 h2 h3
    · rw [br_pos (show (!decide (nm d j - nm d (j - 1) < 0)) = true by rw [decide_eq_false hlt]; rfl)]
      exact ih d hsw hs
  · rw [br_neg (decide_eq_false (show ¬ (j : Int) < (b : Int) by omega))]
    exact ih d hsw hs
theorem ins_J2 {n : Nat} (hn : BIG ≤ n) {a b i : Nat} (st : Int) {d0 : List Card} (hd0 : AllC d0) (hb : b ≤ d0.length) (hl : d0.length ≤ 1000000) (go : Int × Int × Int × Int × List Card → Opt (Bool × List Card)) (hai : a < i) (hib : i < b)
    (ih : ∀ e, Sw a b d0 e → Srt e a i → NQ a b d0 (go ((a : Int), (b : Int), (i : Int), w64 (st + 1), e))) {d : List Card} (hsw : Sw a b d0 d) (hs : Srt d a i) :
    NQ a b d0 (slices_partialInsertionSortCmpFunc_A4_'o_i_compareCards_J2 n go ((a : Int), (b : Int), (i : Int), st, d)) := by
  simp only [slices_partialInsertionSortCmpFunc_A4_'o_i_compareCards_J2, lt_eq]
  rw [w64_id (x := (b : Int) - (i : Int)) (by omega), w64_succ (by omega), br_dec]
  split
  · exact ins_L1 hn st hd0 hb hl go hai ih (by omega) (by omega) hsw hs
  · exact ih d hsw hs
theorem ins_L3 {n : Nat} (hn : BIG ≤ n) {a b i : Nat} (st : Int) {d0 : List Card} (hd0 : AllC d0) (hb : b ≤ d0.length) (hl : d0.length ≤ 1000000) (hlow : Low d0 a b) (go : Int × Int × Int × Int × List Card → Opt (Bool × List Card)) (hai : a < i) (hib : i < b)
    (ih : ∀ e, Sw a b d0 e → Srt e a i → NQ a b d0 (go ((a : Int), (b : Int), (i : Int), w64 (st + 1), e))) {d : List Card} (hsw : Sw a b d0 d) (H : ∀ p q, a ≤ p → p < q → q < i → q ≠ i - 1 → nm d p ≤ nm d q) :
    NQ a b d0 (fx (slices_partialInsertionSortCmpFunc_A4_'o_i_compareCards_L3 n go) n ((a : Int), (b : Int), (i : Int), st, ((i - 1 : Nat) : Int), d)) := by
  refine fx_inv (B := slices_partialInsertionSortCmpFunc_A4_'o_i_compareCards_L3 n go) (fun s => ∃ (j : Nat) (d : List Card), s = ((a : Int), (b : Int), (i : Int), st, (j : Int), d) ∧ a ≤ j ∧ j < i ∧ Sw a b d0 d ∧ ∀ p q, a ≤ p → p < q → q < i → q ≠ j → nm d p ≤ nm d q)
    (fun s => s.2.2.2.2.1.toNat) (NQ a b d0) ?_ n _ ⟨i - 1, d, rfl, by omega, by omega, hsw, H⟩ (big_gt hn (by simp only []; omega))
  clear hsw H d
  rintro self _ ⟨j, e, rfl, haj, hji, hsw, H⟩ ih2
  have hle := hsw.len; have hc := hsw.allC hd0
  have fin : (a < j → nm e (j - 1) ≤ nm e j) → NQ a b d0 (slices_partialInsertionSortCmpFunc_A4_'o_i_compareCards_J2 n go ((a : Int), (b : Int), (i : Int), st, e)) := fun hx => by
    refine ins_J2 hn st hd0 hb hl go hai hib ih hsw fun p q h1 h2 h3 => ?_
    by_cases hq : q = j
    · have := hx (by omega)
      have h5 := H p (j - 1) h1
      subst hq
      by_cases hp : p = q - 1
      · subst hp; exact this
      · have := h5 (by omega) (by omega) (by omega); omega
    · exact H p q h1 h2 (by omega) hq
  simp only [slices_partialInsertionSortCmpFunc_A4_'o_i_compareCards_L3, lt_eq]
  by_cases h1j : 1 ≤ j
  · rw [br_pos (decide_eq_true (show (1 : Int) ≤ (j : Int) by omega)), w64_pred (by omega) (by omega), ckb_pos (inb_ok (by omega)), ckb_pos (inb_ok (by omega)), toNat_cast, toNat_cast, cmp_at hn hc (by omega) (by omega), ob_some]
    by_cases hlt : nm e j - nm e (j - 1) < 0
    · have hja : a < j := by
        refine Nat.lt_of_not_le fun h => ?_
        have hja : j = a := by omega
        have := hlow.sw hsw (j - 1) (by omega) j (by omega) (by omega)
        omega
      rw [br_neg (show (!decide (nm e j - nm e (j - 1) < 0)) = false by rw [decide_eq_true hlt]; rfl), ckb_pos (inb_ok (by omega)), ckb_pos (inb_ok (by omega)), ckb_pos (inb_ok (by omega)), ckb_pos (inb_ok (by rw [List.length_set]; omega))]
      refine ih2 _ ⟨j - 1, swc e j (j - 1), rfl, by omega, by omega, .step hsw j (j - 1) (by omega) (by omega) (by omega) (by omega) hb, fun p q h1 h2 h3 h4 => ?_⟩ (by simp only []; omega)
      have o1 := nm_swp_or (d := e) (i := j) (j := j - 1) (by omega) (by omega) p
      have o2 := nm_swp_or (d := e) (i := j) (j := j - 1) (by omega) (by omega) q
      have e1 := H p q h1 h2 h3
      have e2 := H p (j - 1) h1
      have e3 := H (j - 1) q (by omega)
      have e4 := H j q (by omega)
      omega
    · rw [br_pos (show (!decide (nm e j - nm e (j - 1) < 0)) = true by rw [decide_eq_false hlt]; rfl)]
      exact fin fun _ => by omega
  · rw [br_neg (decide_eq_false (show ¬ (1 : Int) ≤ (j : Int) by omega))]
    exact fin fun h => by omega
theorem part_ins_ok {n : Nat} (hn : BIG ≤ n) {a b : Nat} {d0 : List Card} (hd0 : AllC d0) (hb : b ≤ d0.length) (hl : d0.length ≤ 1000000) (hab : a < b) (hlow : Low d0 a b) :
    NQ a b d0 (slices_partialInsertionSortCmpFunc_A4_'o_i_compareCards n a b d0) := by
  unfold slices_partialInsertionSortCmpFunc_A4_'o_i_compareCards
  rw [lt_eq, w64_succ (by omega)]
  refine fx_inv (B := slices_partialInsertionSortCmpFunc_A4_'o_i_compareCards_L5 n) (fun s => ∃ (i st : Nat) (d : List Card), s = ((a : Int), (b : Int), (i : Int), (st : Int), d) ∧ a < i ∧ i ≤ b ∧ st ≤ 5 ∧ Sw a b d0 d ∧ Srt d a i)
    (fun s => 10 - s.2.2.2.1.toNat) (NQ a b d0) ?_ n _ ⟨a + 1, 0, d0, rfl, by omega, by omega, by omega, .refl, fun p q _ _ _ => by omega⟩ (big_gt hn (by simp only []; omega))
  rintro self _ ⟨i, st, d, rfl, hai, hib, hst, hsw, hs⟩ ih
  simp only [slices_partialInsertionSortCmpFunc_A4_'o_i_compareCards_L5]
  by_cases h5 : st < 5
  · rw [br_pos (decide_eq_true (show (st : Int) < 5 by omega))]
    refine fx_inv (B := slices_partialInsertionSortCmpFunc_A4_'o_i_compareCards_L4 n self) (fun s => ∃ (i : Nat), s = ((a : Int), (b : Int), (i : Int), (st : Int), d) ∧ a < i ∧ i ≤ b ∧ Srt d a i)
      (fun s => 2000000 - s.2.2.1.toNat) (NQ a b d0) ?_ n _ ⟨i, rfl, hai, hib, hs⟩ (big_gt hn (by simp only []; omega))
    clear hai hib hs
    rintro self2 _ ⟨i, rfl, hai, hib, hs⟩ ih2
    have hlen := hsw.len; have hC := hsw.allC hd0
    simp only [slices_partialInsertionSortCmpFunc_A4_'o_i_compareCards_L4, lt_eq]
    by_cases hi : i < b
    · rw [br_pos (decide_eq_true (show (i : Int) < (b : Int) by omega)), w64_pred (by omega) (by omega), ckb_pos (inb_ok (by omega)), ckb_pos (inb_ok (by omega)), toNat_cast, toNat_cast, cmp_at hn hC (by omega) (by omega), ob_some, ob_some]
      by_cases hlt : nm d i - nm d (i - 1) < 0
      · rw [br_neg (show (!decide (nm d i - nm d (i - 1) < 0)) = false by rw [decide_eq_true hlt]; rfl), br_neg (decide_eq_false (show ¬ (i : Int) = (b : Int) by omega)), br_dec]
        split
        · exact ⟨false, d, rfl, hsw, fun h => by cases h⟩
        · rw [ckb_pos (inb_ok (by omega)), ckb_pos (inb_ok (by omega)), ckb_pos (inb_ok (by omega)), ckb_pos (inb_ok (by rw [List.length_set]; omega)), w64_id (x := (i : Int) - (a : Int)) (by omega)]
          have hsw2 : Sw a b d0 (swc d i (i - 1)) := by
            by_cases hia : a ≤ i - 1
            · exact .step hsw _ _ (by omega) (by omega) (by omega) (by omega) hb
            · omega
          have H : ∀ p q, a ≤ p → p < q → q < i → q ≠ i - 1 → nm (swc d i (i - 1)) p ≤ nm (swc d i (i - 1)) q := fun p q h1 h2 h3 h4 => by
            rw [nso (by omega) (by omega) (by omega) (by omega), nso (by omega) (by omega) (by omega) (by omega)]
            exact hs p q h1 h2 h3
          have ihn : ∀ e, Sw a b d0 e → Srt e a i → NQ a b d0 (self ((a : Int), (b : Int), (i : Int), w64 ((st : Int) + 1), e)) := fun e h1 h2 => by
            rw [w64_succ (by omega)]
            exact ih _ ⟨i, st + 1, e, rfl, hai, hib, by omega, h1, h2⟩ (by simp only []; omega)
          rw [br_dec]
          split
          · exact ins_L3 hn (st : Int) hd0 hb hl hlow self hai hi ihn hsw2 H
          · exact ins_J2 hn (st : Int) hd0 hb hl self hai hi ihn hsw2 fun p q h1 h2 h3 => by omega
      · rw [br_pos (show (!decide (nm d i - nm d (i - 1) < 0)) = true by rw [decide_eq_false hlt]; rfl), w64_succ (by omega)]
        refine ih2 _ ⟨i + 1, rfl, by omega, by omega, fun p q h1 h2 h3 => ?_⟩ (by simp only []; omega)
        by_cases hq : q = i
        · subst hq
          by_cases hp : p = q - 1
          · subst hp; omega
          · have := hs p (q - 1) h1 (by omega) (by omega); omega
        · exact hs p q h1 h2 (by omega)
    · have hib2 : i = b := by omega
      subst hib2
      rw [br_neg (decide_eq_false (show ¬ (i : Int) < (i : Int) by omega)), ob_some, br_false, br_pos (decide_eq_true rfl)]
      exact ⟨true, d, rfl, hsw, fun _ => hs⟩
  · rw [br_neg (decide_eq_false (show ¬ (st : Int) < 5 by omega))]
    exact ⟨false, d, rfl, hsw, fun h => by cases h⟩
def Done (a0 b0 a b : Nat) (d : List Card) : Prop := (∀ p, a0 ≤ p → p < a → ∀ q, p < q → q < b0 → nm d p ≤ nm d q) ∧ ∀ q, b ≤ q → q < b0 → ∀ p, a0 ≤ p → p < q → nm d p ≤ nm d q
theorem Done.sw {a0 b0 a b : Nat} {d d' : List Card} (h : Done a0 b0 a b d) (hs : Sw a b d d') (ha : a0 ≤ a) (hb : b ≤ b0) : Done a0 b0 a b d' := by
  obtain ⟨h1, h2⟩ := h
  refine ⟨fun p p1 p2 q q1 q2 => ?_, fun q q1 q2 p p1 p2 => ?_⟩
  · rw [hs.out (.inl p2)]
    by_cases hq : a ≤ q ∧ q < b
    · exact hs.all (P := fun x => nm d p ≤ x) (fun k k1 k2 => h1 p p1 p2 k (by omega) (by omega)) q hq.1 hq.2
    · rw [hs.out (by omega)]; exact h1 p p1 p2 q q1 q2
  · rw [hs.out (k := q) (.inr q1)]
    by_cases hq : a ≤ p ∧ p < b
    · exact hs.all (P := fun x => x ≤ nm d q) (fun k k1 k2 => h2 q q1 q2 k (by omega) (by omega)) p hq.1 hq.2
    · rw [hs.out (k := p) (by omega)]; exact h2 q q1 q2 p p1 p2
theorem Done.fin {a0 b0 a b : Nat} {d : List Card} (h : Done a0 b0 a b d) (hs : Srt d a b) : Srt d a0 b0 := fun p q p1 p2 p3 => by
  by_cases hp : p < a
  · exact h.1 p p1 hp q p2 p3
  · by_cases hq : b ≤ q
    · exact h.2 q hq p3 p p1 p2
    · exact hs p q (by omega) p2 (by omega)
structure QI (a0 b0 a b : Nat) (d0 d : List Card) : Prop where
  ha : a0 ≤ a
  ab : a ≤ b
  hb : b ≤ b0
  sw : Sw a0 b0 d0 d
  low : Low d a b
  dn : Done a0 b0 a b d
theorem QI.sws {a0 b0 a b : Nat} {d0 d d' : List Card} (I : QI a0 b0 a b d0 d) (hs : Sw a b d d') (hl : b0 ≤ d0.length) : QI a0 b0 a b d0 d' :=
  ⟨I.ha, I.ab, I.hb, I.sw.trans (hs.mono I.ha I.hb (by rw [I.sw.len]; exact hl)), I.low.sw hs, I.dn.sw hs I.ha I.hb⟩
theorem QI.out {a0 b0 a b : Nat} {d0 d : List Card} (I : QI a0 b0 a b d0 d) {o : Opt (List Card)} (h : Post a b d o) (hl : b0 ≤ d0.length) : Post a0 b0 d0 o := by
  obtain ⟨e, rfl, h1, h2⟩ := h
  have I2 := I.sws h1 hl
  exact ⟨e, rfl, I2.sw, I2.dn.fin h2⟩
theorem pdq_J1 {n : Nat} (hn : BIG ≤ n) {a0 b0 : Nat} {d0 : List Card} (hd0 : AllC d0) (hl : d0.length ≤ 200) (hb0 : b0 ≤ d0.length) (go0 : Int × Int × Int × List Card → Opt (List Card)) (go : Int × Int × Int × Bool × Bool × List Card → Opt (List Card)) (lim : Nat)
    (hlm : lim ≤ 100) (ih0 : ∀ lim : Nat, lim ≤ 100 → ∀ (a b : Nat) (d : List Card), AllC d → d.length = d0.length → b ≤ d.length → a ≤ b → b - a < b0 - a0 → Low d a b → Post a b d (go0 ((a : Int), (b : Int), (lim : Int), d)))
    {a b p : Nat} (wb wp : Bool) (len : Int) {d : List Card} (I : QI a0 b0 a b d0 d) (hp : a ≤ p) (hpb : p < b)
    (ih : ∀ (a' b' : Nat) (wb wp : Bool) (d' : List Card), QI a0 b0 a' b' d0 d' → b' - a' < b - a → Post a0 b0 d0 (go ((a' : Int), (b' : Int), (lim : Int), wb, wp, d'))) :
    Post a0 b0 d0 (slices_pdqsortCmpFunc_A4_'o_i_compareCards_J1 n go0 go ((a : Int), (b : Int), (lim : Int), wb, wp, len, (p : Int), d)) := by
  have hlen := I.sw.len; have hC := I.sw.allC hd0; have hbb := I.hb; have haa := I.ha
  have hparts : Post a0 b0 d0 (ob (slices_partitionCmpFunc_A4_'o_i_compareCards n a b p d) fun (r18 : Int × Bool × (List (V4 Int))) => Tv.lt (w64 (r18.1 - a)) fun (x19 : Int) => Tv.lt (w64 (b - r18.1)) fun (x20 : Int) => Tv.lt (w64 (Int.tdiv len 8)) fun (x21 : Int) =>
      br (decide (x19 < x20)) (ob (go0 ((a : Int), r18.1, (lim : Int), r18.2.2)) fun (r22 : (List (V4 Int))) => Tv.lt (w64 (r18.1 + 1)) fun (x23 : Int) => go (x23, (b : Int), (lim : Int), (decide (x21 ≤ x19)), r18.2.1, r22))
        (Tv.lt (w64 (r18.1 + 1)) fun (x24 : Int) => ob (go0 (x24, (b : Int), (lim : Int), r18.2.2)) fun (r25 : (List (V4 Int))) => go ((a : Int), r18.1, (lim : Int), (decide (x21 ≤ x20)), r18.2.1, r25))) := by
    obtain ⟨m, f, e, g, hm, hmb, hse, h1, h2⟩ := part_ok hn (d0 := d) hC (b := b) (by omega) (by omega) hp hpb
    rw [g, ob_some]
    simp only [lt_eq]
    have I2 := I.sws hse hb0
    have hl2 := I2.sw.len; have hC2 := I2.sw.allC hd0
    rw [w64_succ (by omega), br_dec]
    split
    · -- the left part first
      obtain ⟨e2, g2, hs2, hsr⟩ := ih0 lim hlm a m e hC2 hl2 (by omega) (by omega) (by omega) fun x hx q q1 q2 => I2.low x hx q q1 (by omega)
      rw [g2, ob_some]
      have hse2 : Sw a b e e2 := hs2.mono (Nat.le_refl _) (by omega) (by omega)
      have I3 := I2.sws hse2 hb0
      have kq : ∀ q, m ≤ q → nm e2 q = nm e q := fun q hq => hs2.out (.inr hq)
      have kp : ∀ x, a ≤ x → x < m → nm e2 x < nm e m := hs2.all (P := fun x => x < nm e m) h1
      have kall : ∀ q, m ≤ q → q < b → ∀ x, a ≤ x → x ≤ m → nm e2 x ≤ nm e2 q := fun q q1 q2 x x1 x2 => by
        rw [kq q q1]
        have t : nm e m ≤ nm e q := by
          by_cases hqm : q = m
          · subst hqm; exact Int.le_refl _
          · exact h2 q (by omega) q2
        by_cases hxm : x = m
        · subst hxm; rw [kq x (Nat.le_refl _)]; exact t
        · have := kp x x1 (by omega); omega
      refine ih (m + 1) b _ _ e2 ⟨by omega, by omega, hbb, I3.sw, fun x hx q q1 q2 => ?_, ?_, ?_⟩ (by omega)
      · by_cases hxa : x < a
        · exact I3.low x hxa q (by omega) q2
        · exact kall q (by omega) q2 x (by omega) (by omega)
      · intro x x1 x2 q q1 q2
        by_cases hxa : x < a
        · exact I3.dn.1 x x1 hxa q q1 q2
        · by_cases hqb : b ≤ q
          · exact I3.dn.2 q hqb q2 x x1 q1
          · by_cases hqm : q < m
            · exact hsr x q (by omega) q1 hqm
            · exact kall q (by omega) (by omega) x (by omega) (by omega)
      · intro q q1 q2 x x1 x2
        exact I3.dn.2 q q1 q2 x x1 x2
    · obtain ⟨e2, g2, hs2, hsr⟩ := ih0 lim hlm (m + 1) b e hC2 hl2 (by omega) (by omega) (by omega) fun x hx q q1 q2 => by
        by_cases hxa : x < a
        · exact I2.low x hxa q (by omega) q2
        · have t1 := h2 q (by omega) q2
          by_cases hxm : x = m
          · subst hxm; exact t1
          · have := h1 x (by omega) (by omega); omega
      rw [g2, ob_some]
      have hse2 : Sw a b e e2 := hs2.mono (by omega) (Nat.le_refl _) (by omega)
      have I3 := I2.sws hse2 hb0
      have kq : ∀ q, q ≤ m → nm e2 q = nm e q := fun q hq => hs2.out (.inl (by omega))
      have kp : ∀ x, m + 1 ≤ x → x < b → nm e m ≤ nm e2 x := hs2.all (P := fun x => nm e m ≤ x) fun k k1 k2 => h2 k (by omega) k2
      have kall : ∀ x, a ≤ x → x ≤ m → ∀ q, m ≤ q → q < b → nm e2 x ≤ nm e2 q := fun x x1 x2 q q1 q2 => by
        rw [kq x x2]
        have t : nm e x ≤ nm e m := by
          by_cases hxm : x = m
          · subst hxm; exact Int.le_refl _
          · have := h1 x x1 (by omega); omega
        by_cases hqm : q = m
        · subst hqm; rw [kq q (Nat.le_refl _)]; exact t
        · have := kp q (by omega) q2; omega
      refine ih a m _ _ e2 ⟨haa, by omega, by omega, I3.sw, fun x hx q q1 q2 => I3.low x hx q q1 (by omega), ?_, ?_⟩ (by omega)
      · intro x x1 x2 q q1 q2
        exact I3.dn.1 x x1 x2 q q1 q2
      · intro q q1 q2 x x1 x2
        by_cases hxa : x < a
        · exact I3.dn.1 x x1 hxa q x2 q2
        · by_cases hqb : b ≤ q
          · exact I3.dn.2 q hqb q2 x x1 x2
          · by_cases hxm : x ≤ m
            · exact kall x (by omega) hxm q q1 (by omega)
            · exact hsr x q (by omega) x2 (by omega)
  simp only [slices_pdqsortCmpFunc_A4_'o_i_compareCards_J1]
  by_cases h0 : 0 < a
  · rw [br_pos (decide_eq_true (show (0 : Int) < (a : Int) by omega)), lt_eq, w64_pred (by omega) (by omega), ckb_pos (inb_ok (by omega)), ckb_pos (inb_ok (by omega)), toNat_cast, toNat_cast, cmp_at hn hC (by omega) (by omega), ob_some, ob_some]
    by_cases hlt : nm d (a - 1) - nm d p < 0
    · rw [br_neg (show (!decide (nm d (a - 1) - nm d p < 0)) = false by rw [decide_eq_true hlt]; rfl)]
      exact hparts
    · rw [br_pos (show (!decide (nm d (a - 1) - nm d p < 0)) = true by rw [decide_eq_false hlt]; rfl)]
      obtain ⟨m, e, g, h1, h2, hse, hmn⟩ := eq_ok hn (d0 := d) hC (a := a) (b := b) (p := p) (by omega) (by omega) hp hpb fun k k1 k2 => by
        have := I.low (a - 1) (by omega) k k1 k2; omega
      rw [g, ob_some]
      have I2 := I.sws hse hb0
      refine ih m b _ _ e ⟨by omega, by omega, hbb, I2.sw, fun x hx q q1 q2 => ?_, fun x x1 x2 q q1 q2 => ?_, fun q q1 q2 x x1 x2 => I2.dn.2 q q1 q2 x x1 x2⟩ (by omega)
      · by_cases hxa : x < a
        · exact I2.low x hxa q (by omega) q2
        · exact hmn x (by omega) hx q (by omega) q2
      · by_cases hxa : x < a
        · exact I2.dn.1 x x1 hxa q q1 q2
        · by_cases hqb : b ≤ q
          · exact I2.dn.2 q hqb q2 x x1 q1
          · exact hmn x (by omega) x2 q (by omega) (by omega)
  · rw [br_neg (decide_eq_false (show ¬ (0 : Int) < (a : Int) by omega)), ob_some, br_false]
    exact hparts
theorem pdq_J2 {n : Nat} (hn : BIG ≤ n) {a0 b0 : Nat} {d0 : List Card} (hd0 : AllC d0) (hl : d0.length ≤ 200) (hb0 : b0 ≤ d0.length) (go0 : Int × Int × Int × List Card → Opt (List Card)) (go : Int × Int × Int × Bool × Bool × List Card → Opt (List Card)) (lim : Nat)
    (hlm : lim ≤ 100) (ih0 : ∀ lim : Nat, lim ≤ 100 → ∀ (a b : Nat) (d : List Card), AllC d → d.length = d0.length → b ≤ d.length → a ≤ b → b - a < b0 - a0 → Low d a b → Post a b d (go0 ((a : Int), (b : Int), (lim : Int), d)))
    {a b p : Nat} (wb wp : Bool) (len hint : Int) {d : List Card} (I : QI a0 b0 a b d0 d) (hp : a ≤ p) (hpb : p < b)
    (ih : ∀ (a' b' : Nat) (wb wp : Bool) (d' : List Card), QI a0 b0 a' b' d0 d' → b' - a' < b - a → Post a0 b0 d0 (go ((a' : Int), (b' : Int), (lim : Int), wb, wp, d'))) :
    Post a0 b0 d0 (slices_pdqsortCmpFunc_A4_'o_i_compareCards_J2 n go0 go ((a : Int), (b : Int), (lim : Int), wb, wp, len, (p : Int), hint, d)) := by
  have hlen := I.sw.len; have hC := I.sw.allC hd0; have hbb := I.hb; have haa := I.ha
  simp only [slices_pdqsortCmpFunc_A4_'o_i_compareCards_J2, br_some, ob_some]
  generalize (if (if wb = true then wp else false) = true then decide (hint = 1) else false) = c
  cases c with
  | false => exact pdq_J1 hn hd0 hl hb0 go0 go lim hlm ih0 wb wp len I hp hpb ih
  | true =>
    rw [br_true]
    obtain ⟨f, e, g, hse, hs⟩ := part_ins_ok hn (d0 := d) hC (a := a) (b := b) (by omega) (by omega) (by omega) I.low
    rw [g, ob_some]
    cases f with
    | true => exact I.out ⟨e, rfl, hse, hs rfl⟩ hb0
    | false => exact pdq_J1 hn hd0 hl hb0 go0 go lim hlm ih0 wb wp len (I.sws hse hb0) hp hpb ih
theorem pdq_J3 {n : Nat} (hn : BIG ≤ n) {a0 b0 : Nat} {d0 : List Card} (hd0 : AllC d0) (hl : d0.length ≤ 200) (hb0 : b0 ≤ d0.length) (go0 : Int × Int × Int × List Card → Opt (List Card)) (go : Int × Int × Int × Bool × Bool × List Card → Opt (List Card)) (lim : Nat)
    (hlm : lim ≤ 100) (ih0 : ∀ lim : Nat, lim ≤ 100 → ∀ (a b : Nat) (d : List Card), AllC d → d.length = d0.length → b ≤ d.length → a ≤ b → b - a < b0 - a0 → Low d a b → Post a b d (go0 ((a : Int), (b : Int), (lim : Int), d)))
    {a b : Nat} (wb wp : Bool) (len : Int) {d : List Card} (I : QI a0 b0 a b d0 d) (h12 : a + 12 < b)
    (ih : ∀ (a' b' : Nat) (wb wp : Bool) (d' : List Card), QI a0 b0 a' b' d0 d' → b' - a' < b - a → Post a0 b0 d0 (go ((a' : Int), (b' : Int), (lim : Int), wb, wp, d'))) :
    Post a0 b0 d0 (slices_pdqsortCmpFunc_A4_'o_i_compareCards_J3 n go0 go ((a : Int), (b : Int), (lim : Int), wb, wp, len, d)) := by
  have hlen := I.sw.len; have hC := I.sw.allC hd0; have hbb := I.hb; have haa := I.ha
  simp only [slices_pdqsortCmpFunc_A4_'o_i_compareCards_J3, lt_eq]
  obtain ⟨p, h, g, hp, hpb⟩ := pivot_ok hn hC (a := a) (b := b) (by omega) (by omega) (by omega)
  rw [g, ob_some, br_dec]
  split
  · obtain ⟨e, g2, hse⟩ := reverse_ok hn (a := a) (b := b) (d0 := d) (by omega) (by omega) (by omega)
    rw [g2, ob_some]
    have ep : w64 (w64 ((b : Int) - 1) - w64 ((p : Int) - (a : Int))) = ((b - 1 - (p - a) : Nat) : Int) := by
      rw [w64_id (x := (b : Int) - 1) (by omega), w64_id (x := (p : Int) - (a : Int)) (by omega), w64_id (by omega)]; omega
    simp only []
    rw [ep]
    exact pdq_J2 hn hd0 hl hb0 go0 go lim hlm ih0 wb wp len 1 (I.sws hse hb0) (by omega) (by omega) ih
  · exact pdq_J2 hn hd0 hl hb0 go0 go lim hlm ih0 wb wp len h I hp hpb ih
theorem pdq_ok {n : Nat} (hn : BIG ≤ n) {a b lim : Nat} {d0 : List Card} (hd0 : AllC d0) (hl : d0.length ≤ 200) (hb : b ≤ d0.length) (hab : a ≤ b) (hlim : lim ≤ 100) (hlow : Low d0 a b) :
    Post a b d0 (slices_pdqsortCmpFunc_A4_'o_i_compareCards n a b lim d0) := by
  unfold slices_pdqsortCmpFunc_A4_'o_i_compareCards
  have key : ∀ k (a b lim : Nat) (d0 : List Card), b - a < k → lim ≤ 100 → AllC d0 → d0.length ≤ 200 → b ≤ d0.length → a ≤ b → Low d0 a b → Post a b d0 (fx (slices_pdqsortCmpFunc_A4_'o_i_compareCards_R n) k ((a : Int), (b : Int), (lim : Int), d0)) := by
    intro k
    induction k with
    | zero => intro a b lim d0 h; omega
    | succ k IH =>
      intro a0 b0 lim0 d0 hk hlim hd0 hl hb hab hlow
      rw [fx_succ]
      simp only [slices_pdqsortCmpFunc_A4_'o_i_compareCards_R]
      refine fx_inv (B := slices_pdqsortCmpFunc_A4_'o_i_compareCards_L4 n (fx (slices_pdqsortCmpFunc_A4_'o_i_compareCards_R n) k)) (fun s => ∃ (a b lim : Nat) (wb wp : Bool) (d : List Card), s = ((a : Int), (b : Int), (lim : Int), wb, wp, d) ∧ lim ≤ 100 ∧ QI a0 b0 a b d0 d)
        (fun s => (s.2.1 - s.1).toNat) (Post a0 b0 d0) ?_ n _ ⟨a0, b0, lim0, true, true, d0, rfl, hlim, Nat.le_refl _, hab, Nat.le_refl _, .refl, hlow, fun p p1 p2 => by omega, fun q q1 q2 => by omega⟩ (big_gt hn (by simp only []; omega))
      rintro self _ ⟨a, b, lim, wb, wp, d, rfl, hlm, I⟩ ih
      have hlen := I.sw.len; have hC := I.sw.allC hd0; have hbb := I.hb; have haa := I.ha; have hab2 := I.ab
      simp only [slices_pdqsortCmpFunc_A4_'o_i_compareCards_L4, lt_eq]
      rw [w64_id (x := (b : Int) - (a : Int)) (by omega)]
      by_cases h12 : a + 12 < b
      · rw [br_neg (decide_eq_false (show ¬ (b : Int) - (a : Int) ≤ 12 by omega))]
        by_cases h0 : lim = 0
        · rw [br_pos (decide_eq_true (show (lim : Int) = 0 by omega))]
          obtain ⟨e, g, h⟩ := heap_ok hn (a := a) (b := b) hC (by omega) (by omega) (by omega)
          rw [g, ob_some]
          exact I.out ⟨e, rfl, h⟩ hb
        · rw [br_neg (decide_eq_false (show ¬ (lim : Int) = 0 by omega))]
          have ihn : ∀ lm, lm ≤ 100 → ∀ (a' b' : Nat) (wb wp : Bool) (d' : List Card), QI a0 b0 a' b' d0 d' → b' - a' < b - a → Post a0 b0 d0 (self ((a' : Int), (b' : Int), ((lm : Nat) : Int), wb, wp, d')) := fun lm hlm a' b' wb wp d' I' hlt =>
            ih _ ⟨a', b', lm, wb, wp, d', rfl, hlm, I'⟩ (by have := I'.ab; simp only []; omega)
          have ih0 : ∀ lm, lm ≤ 100 → ∀ (a b : Nat) (d : List Card), AllC d → d.length = d0.length → b ≤ d.length → a ≤ b → b - a < b0 - a0 → Low d a b → Post a b d (fx (slices_pdqsortCmpFunc_A4_'o_i_compareCards_R n) k ((a : Int), (b : Int), ((lm : Nat) : Int), d)) :=
            fun lm hlm a b d h1 h2 h3 h4 h5 h6 => IH a b lm d (by omega) hlm h1 (by omega) h3 h4 h6
          cases wb with
          | true =>
            rw [Bool.not_true, br_false]
            exact pdq_J3 hn hd0 hl hb _ self lim hlm ih0 true wp _ I h12 (ihn lim hlm)
          | false =>
            rw [Bool.not_false, br_true]
            obtain ⟨e, g, hse⟩ := break_ok hn (a := a) (b := b) (d0 := d) (by omega) (by omega) (by omega)
            rw [g, ob_some, w64_pred (by omega) (by omega)]
            exact pdq_J3 hn hd0 hl hb _ self (lim - 1) (by omega) ih0 false wp _ (I.sws hse hb) h12 (ihn (lim - 1) (by omega))
      · rw [br_pos (decide_eq_true (show (b : Int) - (a : Int) ≤ 12 by omega))]
        obtain ⟨e, g, h⟩ := insertion_ok hn (a := a) (b := b) hC (by omega) (by omega) (by omega)
        rw [g, ob_some]
        exact I.out ⟨e, rfl, h⟩ hb
  exact key n a b lim d0 (big_gt hn (by omega)) hlim hd0 hl hb hab hlow
theorem sortFunc_ok {n : Nat} (hn : BIG ≤ n) {d0 : List Card} (hd0 : AllC d0) (hl : d0.length ≤ 200) : Post 0 d0.length d0 (slices_SortFunc_SA4_A4_'o_i_compareCards n d0) := by
  unfold slices_SortFunc_SA4_A4_'o_i_compareCards
  obtain ⟨r, hr, hr2⟩ := bitsLen_ok n (m := d0.length) hl
  rw [lt_eq, hr, ob_some]
  obtain ⟨e, g, h⟩ := pdq_ok hn (a := 0) (b := d0.length) (lim := r) hd0 hl (Nat.le_refl _) (Nat.zero_le _) hr2 fun p hp => by omega
  have g' : slices_pdqsortCmpFunc_A4_'o_i_compareCards n 0 (d0.length : Int) (r : Int) d0 = some e := g
  rw [g', ob_some]
  exact ⟨e, rfl, h⟩
end Go.Pl
namespace Go.Pl
open Go Go.Tv Go.RowKit
set_option linter.unusedVariables false
def SS (l : List Card) : Prop := l.Pairwise fun a b => num a < num b
theorem ss_uniq : ∀ {l l' : List Card}, SS l → SS l' → (∀ c, c ∈ l ↔ c ∈ l') → l = l'
  | [], [], _, _, _ => rfl
  | [], b :: l', _, _, h => by have := (h b).2 List.mem_cons_self; cases this
  | a :: l, [], _, _, h => by have := (h a).1 List.mem_cons_self; cases this
  | a :: l, b :: l', h1, h2, h => by
    obtain ⟨a1, a2⟩ := List.pairwise_cons.1 h1
    obtain ⟨b1, b2⟩ := List.pairwise_cons.1 h2
    have hab : a = b := by
      rcases List.mem_cons.1 ((h a).1 List.mem_cons_self) with e | e
      · exact e
      · rcases List.mem_cons.1 ((h b).2 List.mem_cons_self) with e2 | e2
        · exact e2.symm
        · have := a1 b e2; have := b1 a e; omega
    subst hab
    congr 1
    refine ss_uniq a2 b2 fun c => ⟨fun hc => ?_, fun hc => ?_⟩
    · rcases List.mem_cons.1 ((h c).1 (List.mem_cons_of_mem _ hc)) with e | e
      · subst e; exact absurd (a1 c hc) (Int.lt_irrefl _)
      · exact e
    · rcases List.mem_cons.1 ((h c).2 (List.mem_cons_of_mem _ hc)) with e | e
      · subst e; exact absurd (b1 c hc) (Int.lt_irrefl _)
      · exact e
theorem ss_of {l : List Card} (h : ∀ p q, p < q → q < l.length → nm l p < nm l q) : SS l := by
  refine List.pairwise_iff_getElem.2 fun i j hi hj hij => ?_
  have := h i j hij hj
  unfold nm at this
  rw [gl_eq hi, gl_eq hj] at this
  exact this
def ins (c : Card) : List Card → List Card
  | [] => [c]
  | x :: l => if num x < num c then x :: ins c l else if x = c then x :: l else c :: x :: l
theorem ins_mem {c d : Card} : ∀ {l : List Card}, d ∈ ins c l ↔ d = c ∨ d ∈ l
  | [] => by simp [ins]
  | x :: l => by
    unfold ins
    split
    · rw [List.mem_cons, ins_mem, List.mem_cons]
      constructor
      · rintro (h | h | h) <;> simp [h]
      · rintro (h | h | h) <;> simp [h]
    · split
      · rename_i h; subst h
        constructor
        · intro h; exact .inr h
        · rintro (h | h)
          · subst h; exact List.mem_cons_self
          · exact h
      · rw [List.mem_cons]
theorem ins_ss {c : Card} (hc : isC c = true) : ∀ {l : List Card}, AllC l → SS l → SS (ins c l)
  | [], _, _ => List.pairwise_cons.2 ⟨fun _ h => (by cases h), List.Pairwise.nil⟩
  | x :: l, ha, h => by
    obtain ⟨h1, h2⟩ := List.pairwise_cons.1 h
    unfold ins
    split
    · rename_i hlt
      refine List.pairwise_cons.2 ⟨fun d hd => ?_, ins_ss hc (fun d hd => ha d (List.mem_cons_of_mem _ hd)) h2⟩
      rcases ins_mem.1 hd with rfl | hd
      · exact hlt
      · exact h1 d hd
    · rename_i hlt
      split
      · exact h
      · rename_i hne
        have hx : num c < num x := by
          have : num c ≠ num x := fun e => hne (num_inj (ha x List.mem_cons_self) hc e.symm)
          omega
        refine List.pairwise_cons.2 ⟨fun d hd => ?_, h⟩
        rcases List.mem_cons.1 hd with rfl | hd
        · exact hx
        · have := h1 d hd; omega
theorem ins_allC {c : Card} (hc : isC c = true) {l : List Card} (h : AllC l) : AllC (ins c l) := fun d hd => by
  rcases ins_mem.1 hd with rfl | hd
  · exact hc
  · exact h d hd
theorem ins_len {c : Card} : ∀ {l : List Card}, (ins c l).length ≤ l.length + 1
  | [] => Nat.le_refl _
  | x :: l => by
    have := ins_len (c := c) (l := l)
    unfold ins
    split
    · simp only [List.length_cons]; omega
    · split <;> simp only [List.length_cons] <;> omega
theorem s_l2Put_eq {n : Nat} (hn : BIG ≤ n) {h : List Card} (hh : AllC h) (hl : h.length ≤ 1000000) {c : Card} (hc : isC c = true) : s_l2Put n h c = some (ins c h) := by
  unfold s_l2Put
  have := fx_cnt (B := s_l2Put_L1 n) h.length (fun i => (h, (i : Int), c)) (fun _ => True) (fun i => some (h.take i ++ ins c (h.drop i))) (fun self i hi _ hself => by
    simp only [s_l2Put_L1]
    by_cases h1 : i < h.length
    · have hci : isC (gl (⟨0, 0, 0, 0⟩ : Card) h i) = true := gl_C hh h1
      have e1 : decide ((i : Int) < (h.length : Int)) = true := decide_eq_true (by omega)
      simp only [e1, br_true]
      rw [ckb_pos (inb_ok h1), toNat_cast, s_l2Less_eq hci hc, ob_some, ob_some, drop_cons h1, gl_eq h1]
      unfold ins
      by_cases hlt : num h[i] < num c
      · rw [br_pos (decide_eq_true hlt), if_pos hlt, lt_eq, w64_succ (by omega), hself h1 trivial, take_snoc h1, List.append_assoc]; rfl
      · rw [br_neg (decide_eq_false hlt), if_neg hlt, ckb_pos (inb_ok h1), ob_some]
        by_cases he : h[i] = c
        · rw [br_pos (show eqd h[i] c = true from decide_eq_true he), if_pos he, s_l2Own_eq (by omega), ob_some, ← drop_cons h1, List.take_append_drop]
        · have el : (sub h 0 i).length = i := by simp [sub]; omega
          rw [br_neg (show eqd h[i] c = false from decide_eq_false he), if_neg he, ckb_pos (slb_ok (by omega) (by omega) (by omega)), s_l2Own_eq (by rw [el]; omega), ob_some, ckb_pos (apok_ok (by rw [el]; omega) (by rw [el]; omega)),
            ckb_pos (slb_ok (by omega) (by omega) (by omega)), ckb_pos (apok_ok (by simp [sub]; omega) (by simp [sub]; omega))]
          congr 1
          unfold sub
          rw [List.append_assoc, ← drop_cons h1]
          simp
          exact List.take_of_length_le (by simp)
    · have e1 : decide ((i : Int) < (h.length : Int)) = false := decide_eq_false (by omega)
      have e2 : i = h.length := by omega
      have el : (sub h 0 i).length = i := by simp [sub]; omega
      simp only [e1, br_false, ob_some]
      rw [toNat_cast, ckb_pos (slb_ok (by omega) (by omega) (by omega)), s_l2Own_eq (by rw [el]; omega), ob_some, ckb_pos (apok_ok (by rw [el]; omega) (by rw [el]; omega)),
            ckb_pos (slb_ok (by omega) (by omega) (by omega)), ckb_pos (apok_ok (by simp [sub]; omega) (by simp [sub]; omega))]
      congr 1
      unfold sub
      rw [e2]; simp [ins]) n 0 (Nat.zero_le _) trivial (big_gt hn (by omega))
  simpa using this
def sortd (l : List Card) : List Card := l.foldl (fun a c => ins c a) []
theorem sortd_go : ∀ (l a : List Card), AllC l → AllC a → SS a → AllC (l.foldl (fun a c => ins c a) a) ∧ SS (l.foldl (fun a c => ins c a) a) ∧ (∀ c, c ∈ l.foldl (fun a c => ins c a) a ↔ c ∈ l ∨ c ∈ a) ∧ (l.foldl (fun a c => ins c a) a).length ≤ l.length + a.length
  | [], a, _, ha, hs => ⟨ha, hs, fun c => by simp, by simp⟩
  | x :: l, a, hl, ha, hs => by
    have hx := hl x List.mem_cons_self
    obtain ⟨h1, h2, h3, h4⟩ := sortd_go l (ins x a) (fun c hc => hl c (List.mem_cons_of_mem _ hc)) (ins_allC hx ha) (ins_ss hx ha hs)
    refine ⟨h1, h2, fun c => ?_, ?_⟩
    · rw [List.foldl_cons, h3 c, ins_mem, List.mem_cons]
      constructor
      · rintro (h | h | h) <;> simp [h]
      · rintro ((h | h) | h) <;> simp [h]
    · have := ins_len (c := x) (l := a)
      rw [List.foldl_cons, List.length_cons]; omega
theorem sortd_ok {l : List Card} (hl : AllC l) : AllC (sortd l) ∧ SS (sortd l) ∧ (∀ c, c ∈ sortd l ↔ c ∈ l) ∧ (sortd l).length ≤ l.length := by
  obtain ⟨h1, h2, h3, h4⟩ := sortd_go l [] hl (fun c hc => (by cases hc)) List.Pairwise.nil
  exact ⟨h1, h2, fun c => by rw [sortd, h3 c]; simp, by rw [sortd]; simpa using h4⟩
theorem s_l2Sorted_eq {n : Nat} (hn : BIG ≤ n) {l : List Card} (hl : AllC l) (hlen : l.length ≤ 1000000) : s_l2Sorted n l = some (sortd l) := by
  unfold s_l2Sorted
  have := fx_foldl (B := s_l2Sorted_L1 n) l (fun i a => (l, (i : Int), a)) (fun a c => ins c a) some (fun i a => AllC a ∧ a.length ≤ i) (fun i a h ⟨h1, h2⟩ => ⟨ins_allC (hl _ (List.getElem_mem h)) h1, by
      have := ins_len (c := l[i]) (l := a); omega⟩) (fun self i a h ⟨h1, h2⟩ => by
    have e1 : decide ((i : Int) < (l.length : Int)) = true := decide_eq_true (by omega)
    simp only [s_l2Sorted_L1, e1, br_true]
    rw [ckb_pos (inb_ok h), toNat_cast, gl_eq h, s_l2Put_eq hn h1 (by omega) (hl _ (List.getElem_mem h)), ob_some, lt_eq, w64_succ (by omega)]) (fun self a _ => by
    have e1 : decide ((l.length : Int) < (l.length : Int)) = false := decide_eq_false (by omega)
    simp only [s_l2Sorted_L1, e1, br_false]) n (big_gt hn (by omega)) [] ⟨fun c hc => (by cases hc), Nat.le_refl _⟩
  simpa [sortd] using this
def CQ (d : List Card) (o : Opt (List Card)) : Prop := ∃ r, o = some r ∧ SS r ∧ (∀ c, c ∈ r ↔ c ∈ d) ∧ r.length ≤ d.length
theorem mem_gl {d : List Card} {c : Card} : c ∈ d ↔ ∃ q, q < d.length ∧ gl (⟨0, 0, 0, 0⟩ : Card) d q = c := by
  constructor
  · intro h
    obtain ⟨q, hq, e⟩ := List.getElem_of_mem h
    exact ⟨q, hq, by rw [gl_eq hq, e]⟩
  · rintro ⟨q, hq, e⟩
    rw [gl_eq hq] at e
    exact e ▸ List.getElem_mem hq
theorem gl_take {α : Type} (z : α) {d : List α} {i k : Nat} (h : k < i) : gl z (d.take i) k = gl z d k := by
  unfold gl
  simp [List.getD_eq_getElem?_getD, List.getElem?_take, h]
structure CI (d e : List Card) (i m : Nat) : Prop where
  len : e.length = d.length
  i1 : 1 ≤ i
  im : i < m
  rest : ∀ q, i ≤ q → gl (⟨0, 0, 0, 0⟩ : Card) e q = gl (⟨0, 0, 0, 0⟩ : Card) d q
  st : ∀ p q, p < q → q < i → nm e p < nm e q
  top : gl (⟨0, 0, 0, 0⟩ : Card) e (i - 1) = gl (⟨0, 0, 0, 0⟩ : Card) d (m - 1)
  from' : ∀ p, p < i → ∃ q, q < m ∧ gl (⟨0, 0, 0, 0⟩ : Card) e p = gl (⟨0, 0, 0, 0⟩ : Card) d q
  to : ∀ q, q < m → ∃ p, p < i ∧ gl (⟨0, 0, 0, 0⟩ : Card) e p = gl (⟨0, 0, 0, 0⟩ : Card) d q
theorem compact_L1 {n : Nat} (hn : BIG ≤ n) {d : List Card} (hd : AllC d) (hl : d.length ≤ 1000000) (hs : Srt d 0 d.length) {k0 : Nat} {i k2 : Nat} {e : List Card} (hk : k0 ≤ d.length) (h2 : k0 + k2 ≤ d.length) (I : CI d e i (k0 + k2)) (hk2 : 1 ≤ k2) (hik : k0 ≤ i) (hk0 : 1 ≤ k0) :
    CQ d (fx (slices_Compact_SA4_A4_'o_L1 n) n ((i : Int), (k0 : Int), ((d.length - k0 : Nat) : Int), (k2 : Int), e)) := by
  refine fx_inv (B := slices_Compact_SA4_A4_'o_L1 n) (fun s => ∃ (i k2 : Nat) (e : List Card), s = ((i : Int), (k0 : Int), ((d.length - k0 : Nat) : Int), (k2 : Int), e) ∧ k0 + k2 ≤ d.length ∧ 1 ≤ k2 ∧ k0 ≤ i ∧ CI d e i (k0 + k2))
    (fun s => 2000000 - s.2.2.2.1.toNat) (CQ d) ?_ n _ ⟨i, k2, e, rfl, h2, hk2, hik, I⟩ (big_gt hn (by simp only []; omega))
  clear I hk2 hik h2 i k2 e
  rintro self _ ⟨i, k2, e, rfl, h2, hk2, hik, I⟩ ih
  have hlen := I.len; have him := I.im; have hi1 := I.i1
  simp only [slices_Compact_SA4_A4_'o_L1, toNat_cast, lt_eq]
  by_cases hlt : k0 + k2 < d.length
  · rw [br_pos (decide_eq_true (show (k2 : Int) < ((d.length - k0 : Nat) : Int) by omega))]
    have hc : ∀ x : Nat, x < d.length - k0 → cand (inb (x : Int) (d.length - k0)) (nlt (k0 + x) e.length) = true := fun x hx => by
      rw [inb_ok hx]; exact decide_eq_true (by omega)
    rw [ckb_pos (hc k2 (by omega)), w64_pred hk2 (by omega), toNat_cast, ckb_pos (hc (k2 - 1) (by omega)), ckb_pos (hc k2 (by omega)), I.rest (k0 + k2) (by omega), I.rest (k0 + (k2 - 1)) (by omega)]
    have hcm : isC (gl (⟨0, 0, 0, 0⟩ : Card) d (k0 + k2)) = true := gl_C hd hlt
    have hcm1 : isC (gl (⟨0, 0, 0, 0⟩ : Card) d (k0 + (k2 - 1))) = true := gl_C hd (by omega)
    by_cases he : gl (⟨0, 0, 0, 0⟩ : Card) d (k0 + k2) = gl (⟨0, 0, 0, 0⟩ : Card) d (k0 + (k2 - 1))
    · rw [br_neg (show (!eqd _ _) = false by rw [show eqd (gl (⟨0, 0, 0, 0⟩ : Card) d (k0 + k2)) (gl (⟨0, 0, 0, 0⟩ : Card) d (k0 + (k2 - 1))) = true from decide_eq_true he]; rfl), w64_succ (by omega)]
      refine ih _ ⟨i, k2 + 1, e, rfl, by omega, by omega, hik, ⟨hlen, hi1, by omega, I.rest, I.st, ?_, fun p hp => ?_, fun q hq => ?_⟩⟩ (by simp only []; omega)
      · rw [I.top, show k0 + (k2 + 1) - 1 = k0 + k2 by omega, he]; congr 1; omega
      · obtain ⟨q, hq, e1⟩ := I.from' p hp
        exact ⟨q, by omega, e1⟩
      · by_cases hqm : q < k0 + k2
        · exact I.to q hqm
        · obtain ⟨p, hp, e1⟩ := I.to (k0 + (k2 - 1)) (by omega)
          exact ⟨p, hp, by rw [e1, show q = k0 + k2 by omega, he]⟩
    · rw [br_pos (show (!eqd _ _) = true by rw [show eqd (gl (⟨0, 0, 0, 0⟩ : Card) d (k0 + k2)) (gl (⟨0, 0, 0, 0⟩ : Card) d (k0 + (k2 - 1))) = false from decide_eq_false he]; rfl), ckb_pos (inb_ok (by omega)), w64_succ (by omega), w64_succ (by omega)]
      have gs : ∀ k, gl (⟨0, 0, 0, 0⟩ : Card) (e.set i (gl (⟨0, 0, 0, 0⟩ : Card) d (k0 + k2))) k = if k = i then gl (⟨0, 0, 0, 0⟩ : Card) d (k0 + k2) else gl (⟨0, 0, 0, 0⟩ : Card) e k := gl_set _ _ _ _ (by omega)
      have ns : ∀ k, nm (e.set i (gl (⟨0, 0, 0, 0⟩ : Card) d (k0 + k2))) k = if k = i then nm d (k0 + k2) else nm e k := fun k => by
        unfold nm; rw [gs]; split <;> rfl
      have hnm : nm d (k0 + k2 - 1) < nm d (k0 + k2) := by
        have h1 := hs (k0 + k2 - 1) (k0 + k2) (by omega) (by omega) hlt
        have : nm d (k0 + k2 - 1) ≠ nm d (k0 + k2) := fun e1 => he (num_inj hcm hcm1 (by rw [show k0 + (k2 - 1) = k0 + k2 - 1 by omega]; exact e1.symm))
        omega
      have htop : nm e (i - 1) = nm d (k0 + k2 - 1) := by unfold nm; rw [I.top]
      refine ih _ ⟨i + 1, k2 + 1, _, rfl, by omega, by omega, by omega, ⟨by rw [List.length_set]; exact hlen, by omega, by omega, fun q hq => ?_, fun p q h1 h2 => ?_, ?_, fun p hp => ?_, fun q hq => ?_⟩⟩ (by simp only []; omega)
      · rw [gs, if_neg (by omega)]; exact I.rest q (by omega)
      · rw [ns, ns, if_neg (by omega)]
        by_cases hq : q = i
        · rw [if_pos hq]
          by_cases hp : p = i - 1
          · rw [hp, htop]; exact hnm
          · have := I.st p (i - 1) (by omega) (by omega); omega
        · rw [if_neg hq]; exact I.st p q h1 (by omega)
      · rw [gs, if_pos (by omega)]; congr 1
      · rw [gs]
        by_cases hpi : p = i
        · rw [if_pos hpi]; exact ⟨k0 + k2, by omega, rfl⟩
        · rw [if_neg hpi]
          obtain ⟨q, hq, e1⟩ := I.from' p (by omega)
          exact ⟨q, by omega, e1⟩
      · by_cases hqm : q < k0 + k2
        · obtain ⟨p, hp, e1⟩ := I.to q hqm
          exact ⟨p, by omega, by rw [gs, if_neg (by omega)]; exact e1⟩
        · exact ⟨i, by omega, by rw [gs, if_pos rfl]; congr 1; omega⟩
  · have hm : k0 + k2 = d.length := by omega
    rw [br_neg (decide_eq_false (show ¬ (k2 : Int) < ((d.length - k0 : Nat) : Int) by omega)), ckb_pos (slb_ok (by omega) (by omega) (by omega)), w64_id (x := (e.length : Int) - (i : Int)) (by omega)]
    have e1 : ((e.length : Int) - (i : Int)).toNat = e.length - i := by omega
    have hl2 : (clr (⟨0, 0, 0, 0⟩ : Card) e i (e.length - i)).length = e.length := by unfold clr; simp; omega
    rw [e1, ckb_pos (slb_ok (by omega) (by omega) (by rw [hl2]; omega)), w64_id (x := (i : Int) - 0) (by omega)]
    have e2 : sub (clr (⟨0, 0, 0, 0⟩ : Card) e i (e.length - i)) 0 ((i : Int) - 0).toNat = e.take i := by
      unfold sub clr
      have : ((i : Int) - 0).toNat = i := by omega
      rw [this, Nat.sub_zero, List.drop_zero, List.append_assoc, List.take_append_of_le_length (by simp; omega), List.take_take, Nat.min_self]
    rw [e2]
    have hlt : (e.take i).length = i := by simp; omega
    refine ⟨_, rfl, ss_of fun p q h1 h2 => ?_, fun c => ?_, by rw [hlt]; omega⟩
    · rw [hlt] at h2
      unfold nm
      rw [gl_take _ (by omega), gl_take _ (by omega)]
      exact I.st p q h1 h2
    · rw [mem_gl, mem_gl, hlt]
      constructor
      · rintro ⟨p, hp, rfl⟩
        rw [gl_take _ hp]
        obtain ⟨q, hq, e3⟩ := I.from' p hp
        exact ⟨q, by omega, e3.symm⟩
      · rintro ⟨q, hq, rfl⟩
        obtain ⟨p, hp, e3⟩ := I.to q (by omega)
        exact ⟨p, hp, by rw [gl_take _ hp]; exact e3⟩
theorem compact_ok {n : Nat} (hn : BIG ≤ n) {d : List Card} (hd : AllC d) (hl : d.length ≤ 1000000) (hs : Srt d 0 d.length) : CQ d (slices_Compact_SA4_A4_'o n d) := by
  unfold slices_Compact_SA4_A4_'o
  rw [br_dec]
  split
  · exact ⟨d, rfl, ss_of fun p q h1 h2 => by omega, fun c => Iff.rfl, Nat.le_refl _⟩
  · refine fx_inv (B := slices_Compact_SA4_A4_'o_L2 n) (fun s => ∃ (k : Nat), s = ((k : Int), d) ∧ 1 ≤ k ∧ k ≤ d.length ∧ ∀ p q, p < q → q < k → nm d p < nm d q)
      (fun s => 2000000 - s.1.toNat) (CQ d) ?_ n _ ⟨1, rfl, by omega, by omega, fun p q _ _ => by omega⟩ (big_gt hn (by simp only []; omega))
    rintro self _ ⟨k, rfl, hk1, hk, H⟩ ih
    simp only [slices_Compact_SA4_A4_'o_L2, lt_eq]
    by_cases hlt : k < d.length
    · rw [br_pos (decide_eq_true (show (k : Int) < (d.length : Int) by omega)), ckb_pos (inb_ok hlt), w64_pred hk1 (by omega), ckb_pos (inb_ok (by omega)), toNat_cast, toNat_cast]
      by_cases he : gl (⟨0, 0, 0, 0⟩ : Card) d k = gl (⟨0, 0, 0, 0⟩ : Card) d (k - 1)
      · rw [br_pos (show eqd (gl (⟨0, 0, 0, 0⟩ : Card) d k) (gl (⟨0, 0, 0, 0⟩ : Card) d (k - 1)) = true from decide_eq_true he), ckb_pos (slb_ok (by omega) (by omega) (by omega)), w64_id (x := (d.length : Int) - (k : Int)) (by omega)]
        have e1 : ((((d.length : Int) - (k : Int)).toNat : Nat) : Int) = ((d.length - k : Nat) : Int) := by omega
        rw [e1]
        exact compact_L1 hn hd hl hs (k2 := 1) hk (by omega) ⟨rfl, hk1, by omega, fun q hq => rfl, H, by rw [← he]; congr 1, fun p hp => ⟨p, by omega, rfl⟩, fun q hq => by
          by_cases hqk : q < k
          · exact ⟨q, hqk, rfl⟩
          · exact ⟨k - 1, by omega, by rw [← he]; congr 1; omega⟩⟩ (Nat.le_refl _) (Nat.le_refl _) hk1
      · rw [br_neg (show eqd (gl (⟨0, 0, 0, 0⟩ : Card) d k) (gl (⟨0, 0, 0, 0⟩ : Card) d (k - 1)) = false from decide_eq_false he), w64_succ (by omega)]
        refine ih _ ⟨k + 1, rfl, by omega, by omega, fun p q h1 h2 => ?_⟩ (by simp only []; omega)
        have hnm : nm d (k - 1) < nm d k := by
          have h1 := hs (k - 1) k (by omega) (by omega) hlt
          have : nm d (k - 1) ≠ nm d k := fun e1 => he (num_inj (gl_C hd hlt) (gl_C hd (by omega)) e1.symm)
          omega
        by_cases hq : q = k
        · subst hq
          by_cases hp : p = q - 1
          · subst hp; exact hnm
          · have := H p (q - 1) (by omega) (by omega); omega
        · exact H p q h1 (by omega)
    · rw [br_neg (decide_eq_false (show ¬ (k : Int) < (d.length : Int) by omega))]
      exact ⟨d, rfl, ss_of fun p q h1 h2 => H p q h1 (by omega), fun c => Iff.rfl, Nat.le_refl _⟩
theorem i_sorted_eq {n : Nat} (hn : BIG ≤ n) {l : List Card} (hl : AllC l) (hlen : l.length ≤ 200) : i_sorted n l = some (sortd l) := by
  unfold i_sorted
  rw [slices_Clone_SA4_A4__eq (by omega), ob_some]
  obtain ⟨d, e, hsw, hs⟩ := sortFunc_ok hn hl hlen
  rw [e, ob_some]
  obtain ⟨r, e2, h1, h2, h3⟩ := compact_ok hn (hsw.allC hl) (by rw [hsw.len]; omega) (by rw [hsw.len]; exact hs)
  have := hsw.len
  rw [e2, ob_some, slices_Clone_SA4_A4__eq (by omega), ob_some]
  obtain ⟨g1, g2, g3, g4⟩ := sortd_ok hl
  congr 1
  refine ss_uniq h1 g2 fun c => ?_
  rw [h2 c, g3 c]
  have := hsw.count c
  constructor
  · intro h; exact List.count_pos_iff.1 (by rw [← this]; exact List.count_pos_iff.2 h)
  · intro h; exact List.count_pos_iff.1 (by rw [this]; exact List.count_pos_iff.2 h)
end Go.Pl
namespace Go.Pl
open Go Go.Tv Go.RowKit
set_option linter.unusedVariables false
theorem SS.nodup {l : List Card} (h : SS l) : l.Nodup := List.Pairwise.imp (fun hab heq => by rw [heq] at hab; exact absurd hab (Int.lt_irrefl _)) h
inductive InSp (l : List Card) : Card → Prop
  | base {c : Card} (h : c ∈ l) : InSp l c
  | th {a b : Card} (ha : InSp l a) (hb : InSp l b) : InSp l (third a b)
theorem InSp.isC {l : List Card} (hl : AllC l) {c : Card} (h : InSp l c) : isC c = true := by
  induction h with
  | base h => exact hl _ h
  | th _ _ ha hb => exact third_isC ha hb
end Go.Pl
namespace Go.Cap
structure Pt where (x0 x1 x2 x3 : Int)
  deriving DecidableEq
def ptN (k : Nat) : Pt := ⟨((k / 27 : Nat) : Int), ((k / 9 % 3 : Nat) : Int), ((k / 3 % 3 : Nat) : Int), ((k % 3 : Nat) : Int)⟩
def all81 : List Pt := (List.range 81).map ptN
def isP (c : Pt) : Prop := (0 ≤ c.x0 ∧ c.x0 ≤ 2) ∧ (0 ≤ c.x1 ∧ c.x1 ≤ 2) ∧ (0 ≤ c.x2 ∧ c.x2 ≤ 2) ∧ 0 ≤ c.x3 ∧ c.x3 ≤ 2
theorem mem_all81 {c : Pt} (h : isP c) : c ∈ all81 := by
  obtain ⟨c0, c1, c2, c3⟩ := c
  unfold isP at h
  simp only at h
  refine List.mem_map.2 ⟨(27 * c0 + 9 * c1 + 3 * c2 + c3).toNat, by rw [List.mem_range]; omega, ?_⟩
  unfold ptN
  congr 1 <;> omega
def pz : Pt := ⟨0, 0, 0, 0⟩
def dot (w c : Pt) : Int := (w.x0 * c.x0 + w.x1 * c.x1 + w.x2 * c.x2 + w.x3 * c.x3) % 3
def df (a b : Pt) : Pt := ⟨(b.x0 - a.x0) % 3, (b.x1 - a.x1) % 3, (b.x2 - a.x2) % 3, (b.x3 - a.x3) % 3⟩
def neg (d : Pt) : Pt := ⟨(0 - d.x0) % 3, (0 - d.x1) % 3, (0 - d.x2) % 3, (0 - d.x3) % 3⟩
def th (a b : Pt) : Pt := ⟨(6 - a.x0 - b.x0) % 3, (6 - a.x1 - b.x1) % 3, (6 - a.x2 - b.x2) % 3, (6 - a.x3 - b.x3) % 3⟩
theorem df_isP (a b : Pt) : isP (df a b) := by unfold isP df; simp only []; omega
theorem mulmod (w x : Int) : ∃ q : Int, w * (x % 3) = w * x - 3 * q := by
  refine ⟨w * (x / 3), ?_⟩
  have h : x % 3 = x - 3 * (x / 3) := by omega
  rw [h, Int.mul_sub, ← Int.mul_assoc, ← Int.mul_assoc, Int.mul_comm w 3]
theorem dot_df (w a b : Pt) : dot w (df a b) = (dot w b - dot w a) % 3 := by
  unfold dot df
  simp only []
  obtain ⟨q0, h0⟩ := mulmod w.x0 (b.x0 - a.x0)
  obtain ⟨q1, h1⟩ := mulmod w.x1 (b.x1 - a.x1)
  obtain ⟨q2, h2⟩ := mulmod w.x2 (b.x2 - a.x2)
  obtain ⟨q3, h3⟩ := mulmod w.x3 (b.x3 - a.x3)
  rw [h0, h1, h2, h3, Int.mul_sub, Int.mul_sub, Int.mul_sub, Int.mul_sub]
  omega
theorem dot_bd (w a : Pt) : dot w a = 0 ∨ dot w a = 1 ∨ dot w a = 2 := by unfold dot; omega
theorem dot_eq_iff (w a b : Pt) : dot w a = dot w b ↔ dot w (df a b) = 0 := by
  rw [dot_df]
  have := dot_bd w a; have := dot_bd w b
  omega
theorem df_ne {a b : Pt} (ha : isP a) (hb : isP b) (h : a ≠ b) : df a b ≠ pz := by
  intro e
  apply h
  cases a; cases b
  unfold isP at ha hb
  unfold df pz at e
  simp only [Pt.mk.injEq] at ha hb e ⊢
  omega
theorem df_inj {a b c : Pt} (hb : isP b) (hc : isP c) (h : df a b = df a c) : b = c := by
  cases a; cases b; cases c
  unfold isP at hb hc
  unfold df at h
  simp only [Pt.mk.injEq] at hb hc h ⊢
  omega
theorem df_neg {a b c : Pt} (ha : isP a) (hb : isP b) (hc : isP c) (h : df a c = neg (df a b)) : th a b = c := by
  cases a; cases b; cases c
  unfold isP at ha hb hc
  unfold df neg at h
  unfold th
  simp only [Pt.mk.injEq] at ha hb hc h ⊢
  omega
def first1 (w : Pt) : Bool := if w.x0 = 0 then (if w.x1 = 0 then (if w.x2 = 0 then decide (w.x3 = 1) else decide (w.x2 = 1)) else decide (w.x1 = 1)) else decide (w.x0 = 1)
def W40 : List Pt := all81.filter first1
def chk2 : Bool := all81.all fun d => decide (d = pz) || Nat.beq (W40.countP fun w => decide (dot w d = 0)) 13
def chk3 : Bool := all81.all fun d => decide (d = pz) || all81.all fun e => decide (e = pz) || decide (e = d) || decide (e = neg d) || Nat.beq ((W40.filter fun w => decide (dot w d = 0)).countP fun w => decide (dot w e = 0)) 4
theorem chk2_ok : chk2 = true := by kernel_rfl
theorem chk3_ok : chk3 = true := by kernel_rfl
theorem W40_len : W40.length = 40 := by kernel_rfl
end Go.Cap

/- Plain laws: LMn. -/
import Derived.Test.YtbkbkaonjhlplaaLLRs
import Derived.Test.YtbkbkaonjhlplaaLLDh
set_option linter.unusedVariables false
set_option linter.unusedSimpArgs false
namespace Go.Pl
open Go Go.Tv Go.RowKit
set_option linter.unusedVariables false

/-! means -/
theorem S_map {α : Type} (f : α → Nat) (z : α) (l : List α) : (S l.length fun m => f (gl z l m)) = (l.map f).sum := by
  have h : ∀ k, k ≤ l.length → (S k fun m => f (gl z l m)) = ((l.take k).map f).sum := by
    intro k
    induction k with
    | zero => intro _; simp [S]
    | succ k ih =>
      intro hk
      rw [S, ih (by omega), take_snoc (show k < l.length by omega), List.map_append, List.sum_append, gl_eq (show k < l.length by omega)]
      simp
  rw [h l.length (Nat.le_refl _), List.take_length]
def both (h R : List Card) : Nat := T R.length fun i k => b2 (h.contains (third (gz R i) (gz R k)))
def MAv (h : List Card) (k : Int) : V2 Int :=
  if k = 0 then FR (linesOf h).length 1 else if k = 1 then FR ((linesOf h).length * (rest h).length + tot h) (rest h).length
  else FR ((linesOf h).length * c2' (rest h).length + tot h * ((rest h).length - 1) + both h (rest h)) (c2' (rest h).length)
def MA (h : List Card) (k : Int) : (V2 Int) × Bool := if hand h && decide (0 ≤ k ∧ k ≤ 2) then (MAv h k, true) else (⟨0, 0⟩, false)
structure MB (h : List Card) : Prop where
  H : HandL h
  len : h.length ≤ 27
  L : (linesOf h).length ≤ 729
  r : (rest h).length + h.length = 81
  rc : AllC (rest h)
  t : tot h ≤ 351
  c2r : c2' (rest h).length ≤ 3240
  c2p : 1 ≤ c2' (rest h).length
  bo : both h (rest h) ≤ 3240
theorem b2_le (b : Bool) : b2 b ≤ 1 := by unfold b2; split <;> omega
theorem MB.of {h : List Card} (hh : hand h = true) : MB h := by
  have H := HandL.of hh
  have hl := hand_len hh
  have hr := rest_len H
  have c27 : c2' 27 = 351 := by decide
  have c81 : c2' 81 = 3240 := by have := c2'_two 81; omega
  have c2 : c2' 2 = 1 := by decide
  have h1 := c2'_le (show (rest h).length ≤ 81 by omega)
  have h2 := c2'_le (show 2 ≤ (rest h).length by omega)
  have h3 := c2'_le (show h.length ≤ 27 by omega)
  have ho := open_pairs H
  refine ⟨H, hl, lines_len27 hh, hr, restK_allC h (by omega), ?_, by omega, by omega, ?_⟩
  · rw [tot_open H]; unfold opn; omega
  · have := T_le (n := (rest h).length) (k := 1) (g := fun i k => b2 (h.contains (third (gz (rest h) i) (gz (rest h) k)))) fun i j => b2_le _
    unfold both; omega
theorem s_MeanAfter_eq {n : Nat} (hn : BIG ≤ n) {h : List Card} (hl : h.length ≤ 1048576) (k : Int) : s_MeanAfter n h k = some (MA h k) := by
  unfold s_MeanAfter MA
  rw [s_l2Hand_eq hn (by omega), s_l1In_eq]
  simp only [ob_some, br_some, lt_eq]
  cases hh : hand h with
  | false => rfl
  | true =>
    cases hd : decide (0 ≤ k ∧ k ≤ 2) with
    | false => rfl
    | true =>
      obtain ⟨H, hlen, hL, hr, hrc, ht, hc2, hc2p, hbo⟩ := MB.of hh
      have hk := of_decide_eq_true hd
      show br false _ _ = _
      rw [br_false, s_l2Lines_eq hn (by omega) H.c, ob_some, s_l9Rest_eq hn (by omega), ob_some, br_dec]
      have hb : (if (true && true) = true then (MAv h k, true) else (⟨0, 0⟩, false)) = (MAv h k, true) := rfl
      rw [hb]
      unfold MAv
      by_cases h0 : k = 0
      · rw [if_pos h0, if_pos h0, FR_one]
      · rw [if_neg h0, if_neg h0]
        have htot : (S (rest h).length fun i => thr h (gl ⟨0, 0, 0, 0⟩ (rest h) i)) = tot h := S_map (thr h) ⟨0, 0, 0, 0⟩ (rest h)
        have hmul : (linesOf h).length * (rest h).length ≤ 729 * 81 := Nat.mul_le_mul hL (by omega)
        have hmul2 : (linesOf h).length * c2' (rest h).length ≤ 729 * 3240 := Nat.mul_le_mul hL hc2
        have hmul3 : tot h * ((rest h).length - 1) ≤ 351 * 81 := Nat.mul_le_mul ht (by omega)
        have htr : ∀ i, (S i fun i => thr h (gl ⟨0, 0, 0, 0⟩ (rest h) i)) ≤ i * 10000 := fun i => by
          rw [← S_const]
          refine S_le fun j _ => ?_
          have h1 := thr_len (h := h) (c := gl ⟨0, 0, 0, 0⟩ (rest h) j)
          have : h.length * h.length ≤ 27 * 27 := Nat.mul_le_mul hlen hlen
          omega
        unfold both at hbo ⊢
        generalize linesOf h = L at *
        generalize rest h = R at *
        refine fx_tri (B := s_MeanAfter_L2 n) (C := s_MeanAfter_L1 n) R.length (fun i a => (h, k, (L.length : Int), ((S i fun i => thr h (gl ⟨0, 0, 0, 0⟩ R i) : Nat) : Int), a, (i : Int), ⟨0, 0⟩, R)) (fun i q a => (h, k, (L.length : Int), ((S (i + 1) fun i => thr h (gl ⟨0, 0, 0, 0⟩ R i) : Nat) : Int), a, (i : Int), (q : Int), ⟨0, 0⟩, R))
          (fun i q => b2 (h.contains (third (gz R i) (gz R q))))
          (fun a => if k = 1 then some (FR (L.length * R.length + tot h) R.length, true) else (ob (s_l9Cut n (((L.length * c2' R.length + tot h * (R.length - 1) : Nat) : Int) + a) ((c2' R.length : Nat) : Int)) fun x => some (x, true))) 10000 n (big_gt hn (by omega)) ?_ ?_ ?_ ?_ (by omega) |>.trans ?_
        · intro self i a hi h0 h1
          have b1 := htr i; have b2' := htr (i + 1)
          simp only [s_MeanAfter_L2, lt_eq]
          rw [br_pos (decide_eq_true (show (i : Int) < (R.length : Int) by omega)), ckb_pos (inb_ok hi), toNat_cast, s_l2Through_eq hn H, ob_some]
          rw [S] at b2'
          rw [w64_id (by omega), S]; rfl
        · intro self self2 i q a hi hq h0 h1
          simp only [s_MeanAfter_L1, lt_eq]
          rw [br_pos (decide_eq_true (show (q : Int) < (i : Int) by omega)), ckb_pos (inb_ok hi), ckb_pos (inb_ok (by omega)), toNat_cast, toNat_cast, s_l2Third_eq hn (gl_C hrc hi) (gl_C hrc (by omega)), ob_some, s_l2Has_eq hn (by omega), ob_some, w64_succ (k := q) (by omega)]
          cases hb : h.contains (third (gz R i) (gz R q)) with
          | true =>
            rw [hb] at h1
            have hb1 : (b2 true : Nat) = 1 := rfl
            rw [hb1] at h1
            rw [br_true, w64_id (by omega)]; rfl
          | false => rw [br_false]; simp [b2]
        · intro self self2 i a hi h0 h1
          simp only [s_MeanAfter_L1, lt_eq]
          rw [br_neg (decide_eq_false (by omega)), w64_succ (by omega)]
        · intro self a ha0 ha1
          simp only [s_MeanAfter_L2, lt_eq]
          rw [br_neg (decide_eq_false (by omega)), htot, br_dec]
          by_cases h1 : k = 1
          · rw [if_pos h1, if_pos h1]
            have e : ((L.length : Int) * (R.length : Int)) = ((L.length * R.length : Nat) : Int) := by simp
            rw [e, w64_id (x := ((L.length * R.length : Nat) : Int)) (by omega), w64_id (by omega)]
            have e2 : (((L.length * R.length : Nat) : Int) + (tot h : Int)) = ((L.length * R.length + tot h : Nat) : Int) := by omega
            rw [e2, s_l9Cut_eq hn (by omega) (by omega) (by omega), ob_some]
          · rw [if_neg h1, if_neg h1]
            have ec := (choose_eq hn (a := R.length) (k := 2) (by omega) (.inl (by omega))).1
            rw [chof2 (by omega)] at ec
            have ec' : s_l9Choose n (R.length : Int) 2 = some ((c2' R.length : Nat) : Int) := ec
            rw [ec', ob_some]
            have e : ((L.length : Int) * ((c2' R.length : Nat) : Int)) = ((L.length * c2' R.length : Nat) : Int) := by simp
            have e2 : ((R.length : Int) - 1) = ((R.length - 1 : Nat) : Int) := by omega
            have e3 : ((tot h : Int) * ((R.length - 1 : Nat) : Int)) = ((tot h * (R.length - 1) : Nat) : Int) := by simp
            rw [e, e2, w64_id (x := ((R.length - 1 : Nat) : Int)) (by omega), e3, w64_id (x := ((L.length * c2' R.length : Nat) : Int)) (by omega), w64_id (x := ((tot h * (R.length - 1) : Nat) : Int)) (by omega), w64_id (x := ((L.length * c2' R.length : Nat) : Int) + ((tot h * (R.length - 1) : Nat) : Int)) (by omega), w64_id (by omega)]
            rw [show ((L.length * c2' R.length : Nat) : Int) + ((tot h * (R.length - 1) : Nat) : Int) = ((L.length * c2' R.length + tot h * (R.length - 1) : Nat) : Int) by omega]
        · by_cases h1 : k = 1
          · rw [if_pos h1, if_pos h1]
          · rw [if_neg h1, if_neg h1]
            generalize hT : (T R.length fun i q => b2 (h.contains (third (gz R i) (gz R q)))) = t at hbo ⊢
            rw [show (((L.length * c2' R.length + tot h * (R.length - 1) : Nat) : Int) + (t : Int)) = ((L.length * c2' R.length + tot h * (R.length - 1) + t : Nat) : Int) by omega, s_l9Cut_eq hn (by omega) (by omega) (by omega), ob_some]
theorem i_MeanAfter_eq {n : Nat} (hn : BIG ≤ n) {h : List Card} (hl : h.length ≤ 1048576) (k : Int) : i_MeanAfter n h k = some (MA h k) := by
  unfold i_MeanAfter MA
  rw [i_IsHand_eq hn (by omega), i_within_eq]
  simp only [ob_some, br_some, lt_eq]
  cases hh : hand h with
  | false => rfl
  | true =>
    cases hd : decide (0 ≤ k ∧ k ≤ 2) with
    | false => rfl
    | true =>
      obtain ⟨H, hlen, hL, hr, hrc, ht, hc2, hc2p, hbo⟩ := MB.of hh
      have hk := of_decide_eq_true hd
      show br false _ _ = _
      have hb : (if (true && true) = true then (MAv h k, true) else (⟨0, 0⟩, false)) = (MAv h k, true) := rfl
      rw [br_false, hb]
      have htot : ∀ j, totK h j ≤ j * 10000 := fun j => by
        rw [totK_S, ← S_const]
        refine S_le fun i _ => ?_
        have h1 := thr_len (h := h) (c := cardAt i)
        have : h.length * h.length ≤ 27 * 27 := Nat.mul_le_mul hlen hlen
        split <;> omega
      refine fx_cnt (B := i_MeanAfter_L3 n) 81 (fun j => (h, k, (totK h j : Int), (j : Int), ⟨0, 0⟩, restK h j)) (fun _ => True) (fun _ => some (MAv h k, true)) (fun self j hj _ ih => ?_) n 0 (by omega) trivial (big_gt hn (by omega))
      simp only [i_MeanAfter_L3, lt_eq]
      by_cases hlt : j < 81
      · have b1 := htot j; have b2' := htot (j + 1)
        rw [br_pos (decide_eq_true (show (j : Int) < 81 by omega)), i_card_eq n (by omega), ob_some, i_has_eq hn (by omega), ob_some, i_pairsFor_eq hn H, ob_some, w64_succ (by omega)]
        have ih := ih hlt trivial
        have hlen' := restK_le h j
        rw [restK_succ, totK_succ] at ih
        rw [totK_succ] at b2'
        unfold rs1 at ih
        cases hc : h.contains (cardAt (j : Int)) with
        | true =>
          rw [hc, if_pos rfl, if_pos rfl, List.append_nil] at ih
          rw [Bool.not_true, br_false]; exact ih
        | false =>
          rw [hc, if_neg (by simp), if_neg (by simp)] at ih
          rw [hc, if_neg (by simp)] at b2'
          rw [Bool.not_false, br_true, ckb_pos (apok_ok (by omega) (by omega))]
          have e : w64 ((totK h j : Int) + ((prs h (cardAt (j : Int))).length : Int)) = ((totK h j + thr h (cardAt j) : Nat) : Int) := by
            have : (prs h (cardAt (j : Int))).length = thr h (cardAt j) := rfl
            rw [this, w64_id (by omega)]; omega
          rw [e]; exact ih
      · have : j = 81 := by omega
        subst this
        have e81 : restK h 81 = rest h := rfl
        have t81 : totK h 81 = tot h := rfl
        rw [br_neg (decide_eq_false (by omega)), i_linesIn_eq hn (by omega) H.c H.nd, ob_some, e81, t81, br_dec]
        unfold MAv
        have hmul : (linesOf h).length * (rest h).length ≤ 729 * 81 := Nat.mul_le_mul hL (by omega)
        have hmul2 : (linesOf h).length * c2' (rest h).length ≤ 729 * 3240 := Nat.mul_le_mul hL hc2
        have hmul3 : tot h * ((rest h).length - 1) ≤ 351 * 81 := Nat.mul_le_mul ht (by omega)
        by_cases h0 : k = 0
        · have ef := i_fraction_eq hn (a := (linesOf h).length) (b := 1) (by omega) (by omega) (by omega)
          have ef' : i_fraction n ((linesOf h).length : Int) 1 = _ := ef
          rw [if_pos h0, if_pos h0, ef', ob_some]
        · rw [if_neg h0, if_neg h0, br_dec]
          by_cases h1 : k = 1
          · rw [if_pos h1, if_pos h1]
            have e : (((linesOf h).length : Int) * ((rest h).length : Int)) = (((linesOf h).length * (rest h).length : Nat) : Int) := by simp
            rw [e, w64_id (x := (((linesOf h).length * (rest h).length : Nat) : Int)) (by omega), w64_id (by omega)]
            have e2 : ((((linesOf h).length * (rest h).length : Nat) : Int) + (tot h : Int)) = (((linesOf h).length * (rest h).length + tot h : Nat) : Int) := by omega
            rw [e2, i_fraction_eq hn (by omega) (by omega) (by omega), ob_some]
          · rw [if_neg h1, if_neg h1]
            have ec := (choose_eq hn (a := (rest h).length) (k := 2) (by omega) (.inl (by omega))).2.1
            rw [chof2 (by omega)] at ec
            have ec' : i_choose n ((rest h).length : Int) 2 = some ((c2' (rest h).length : Nat) : Int) := ec
            rw [ec', ob_some]
            unfold both at hbo ⊢
            generalize linesOf h = L at *
            generalize rest h = R at *
            refine fx_tri (B := i_MeanAfter_L2 n) (C := i_MeanAfter_L1 n) R.length (fun i a => (h, (tot h : Int), (L.length : Int), (R.length : Int), ((c2' R.length : Nat) : Int), a, (R.length : Int), (i : Int), ⟨0, 0⟩, R))
              (fun i q a => (h, (tot h : Int), (L.length : Int), (R.length : Int), ((c2' R.length : Nat) : Int), a, (R.length : Int), (i : Int), 0, (i : Int), (i : Int), (q : Int), ⟨0, 0⟩, R, gl ⟨0, 0, 0, 0⟩ R i))
              (fun i q => b2 (h.contains (third (gz R i) (gz R q))))
              (fun a => ob (i_fraction n (((L.length * c2' R.length + tot h * (R.length - 1) : Nat) : Int) + a) ((c2' R.length : Nat) : Int)) fun x => some (x.1, x.2)) 10000 n (big_gt hn (by omega)) ?_ ?_ ?_ ?_ (by omega) |>.trans ?_
            · intro self i a hi h0 h1
              simp only [i_MeanAfter_L2]
              rw [br_pos (decide_eq_true (show (i : Int) < (R.length : Int) by omega)), ckb_pos (inb_ok hi), ckb_pos (slb_ok (by omega) (by omega) (by omega)), toNat_cast, w64_id (x := (i : Int) - 0) (by omega)]
              have : ((((i : Int) - 0).toNat : Nat) : Int) = (i : Int) := by omega
              rw [this]; rfl
            · intro self self2 i q a hi hq h0 h1
              simp only [i_MeanAfter_L1, lt_eq]
              have hi' : cand (inb (q : Int) (i : Int).toNat) (nlt ((0 : Int).toNat + (q : Int).toNat) R.length) = true := by
                rw [toNat_cast, inb_ok hq]
                exact decide_eq_true (by show 0 + (q : Int).toNat < R.length; rw [toNat_cast]; omega)
              have e0 : (0 : Int).toNat + (q : Int).toNat = q := by rw [toNat_cast]; exact Nat.zero_add q
              rw [br_pos (decide_eq_true (show (q : Int) < (i : Int) by omega)), ckb_pos hi', e0, i_third_eq hn (gl_C hrc hi) (gl_C hrc (by omega)), ob_some, i_has_eq hn (by omega), ob_some, w64_succ (k := q) (by omega)]
              cases hb : h.contains (third (gz R i) (gz R q)) with
              | true =>
                rw [hb] at h1
                have hb1 : (b2 true : Nat) = 1 := rfl
                rw [hb1] at h1
                rw [br_true, w64_id (by omega)]; rfl
              | false => rw [br_false]; simp [b2]
            · intro self self2 i a hi h0 h1
              simp only [i_MeanAfter_L1, lt_eq]
              rw [br_neg (decide_eq_false (by omega)), w64_succ (by omega)]
            · intro self a ha0 ha1
              simp only [i_MeanAfter_L2, lt_eq]
              rw [br_neg (decide_eq_false (by omega))]
              have e : ((L.length : Int) * ((c2' R.length : Nat) : Int)) = ((L.length * c2' R.length : Nat) : Int) := by simp
              have e2 : ((R.length : Int) - 1) = ((R.length - 1 : Nat) : Int) := by omega
              have e3 : ((tot h : Int) * ((R.length - 1 : Nat) : Int)) = ((tot h * (R.length - 1) : Nat) : Int) := by simp
              rw [e, e2, w64_id (x := ((R.length - 1 : Nat) : Int)) (by omega), e3, w64_id (x := ((L.length * c2' R.length : Nat) : Int)) (by omega), w64_id (x := ((tot h * (R.length - 1) : Nat) : Int)) (by omega), w64_id (x := ((L.length * c2' R.length : Nat) : Int) + ((tot h * (R.length - 1) : Nat) : Int)) (by omega), w64_id (by omega)]
              rw [show ((L.length * c2' R.length : Nat) : Int) + ((tot h * (R.length - 1) : Nat) : Int) = ((L.length * c2' R.length + tot h * (R.length - 1) : Nat) : Int) by omega]
            · generalize hT : (T R.length fun i q => b2 (h.contains (third (gz R i) (gz R q)))) = t at hbo ⊢
              rw [show (((L.length * c2' R.length + tot h * (R.length - 1) : Nat) : Int) + (t : Int)) = ((L.length * c2' R.length + tot h * (R.length - 1) + t : Nat) : Int) by omega, i_fraction_eq hn (by omega) (by omega) (by omega), ob_some]

/-! differences -/
def difN (a b : Card) : Nat := (dif a b).toNat
theorem dif_bd (a b : Card) : 0 ≤ dif a b ∧ dif a b ≤ 4 := by
  have e : ∀ x y : Int, 0 ≤ d1 x y ∧ d1 x y ≤ 1 := fun x y => by unfold d1; split <;> omega
  have := e a.x0 b.x0; have := e a.x1 b.x1; have := e a.x2 b.x2; have := e a.x3 b.x3
  unfold dif; omega
theorem difc_pos {a b : Card} (h : a ≠ b) : 1 ≤ dif a b := by
  refine Classical.byContradiction fun hn => h ?_
  have e : ∀ x y : Int, 0 ≤ d1 x y ∧ (d1 x y = 0 → x = y) := fun x y => by
    unfold d1
    by_cases hx : x = y
    · rw [if_pos hx]; exact ⟨by omega, fun _ => hx⟩
    · rw [if_neg hx]; exact ⟨by omega, fun h => by omega⟩
  have h0 := e a.x0 b.x0; have h1 := e a.x1 b.x1; have h2 := e a.x2 b.x2; have h3 := e a.x3 b.x3
  have hb := dif_bd a b
  unfold dif at hn hb
  cases a; cases b
  simp only [] at *
  rw [h0.2 (by omega), h1.2 (by omega), h2.2 (by omega), h3.2 (by omega)]
theorem difN_cast (a b : Card) : (difN a b : Int) = dif a b := by have := dif_bd a b; unfold difN; omega
def difT (h : List Card) : Nat := T h.length fun i k => difN (gz h i) (gz h k)
def MD (h : List Card) : (V2 Int) × Bool := if hand h && decide (2 ≤ h.length) then (FR (difT h) (c2' h.length), true) else (⟨0, 0⟩, false)
theorem difT_le (h : List Card) : difT h ≤ c2' h.length * 4 := T_le fun i j => by have := dif_bd (gz h i) (gz h j); have := difN_cast (gz h i) (gz h j); omega
theorem difT_ge {h : List Card} (H : HandL h) : c2' h.length ≤ difT h := by
  have : (T h.length fun _ _ => 1) ≤ difT h := S_le fun i hi => S_le fun k hk => by
    have h1 := difc_pos (H.ne hi (show k < h.length by omega) (show i ≠ k by omega))
    have h2 := difN_cast (gz h i) (gz h k)
    show 1 ≤ difN (gz h i) (gz h k)
    have h3 : (difN (gz h i) (gz h k) : Int) = dif (gl ⟨0, 0, 0, 0⟩ h i) (gl ⟨0, 0, 0, 0⟩ h k) := h2
    omega
  rw [T_const] at this; omega
theorem dcond (h : List Card) : (if (!hand h) = true then true else decide ((h.length : Int) < 2)) = !(hand h && decide (2 ≤ h.length)) := by
  cases hand h
  · rfl
  · by_cases h2 : 2 ≤ h.length
    · rw [decide_eq_true h2, decide_eq_false (show ¬ (h.length : Int) < 2 by omega)]; rfl
    · rw [decide_eq_false h2, decide_eq_true (show (h.length : Int) < 2 by omega)]; rfl
theorem s_MeanDiffer_eq {n : Nat} (hn : BIG ≤ n) {h : List Card} (hl : h.length ≤ 1048576) : s_MeanDiffer n h = some (MD h) := by
  unfold s_MeanDiffer MD
  rw [s_l2Hand_eq hn (by omega)]
  simp only [ob_some, br_some, lt_eq, dcond]
  cases hc : (hand h && decide (2 ≤ h.length)) with
  | false => rfl
  | true =>
    rw [Bool.and_eq_true, decide_eq_true_eq] at hc
    have hlen := hand_len hc.1
    have c27 : c2' 27 = 351 := by decide
    have c2 : c2' 2 = 1 := by decide
    have h1 := c2'_le hlen; have h2 := c2'_le hc.2
    have h3 := difT_le h
    rw [Bool.not_true, br_false, if_pos rfl]
    unfold difT at h3 ⊢
    refine fx_tri (B := s_MeanDiffer_L2 n) (C := s_MeanDiffer_L1 n) h.length (fun i a => (h, a, (i : Int), ⟨0, 0⟩)) (fun i k a => (h, a, (i : Int), (k : Int), ⟨0, 0⟩)) (fun i k => difN (gz h i) (gz h k)) (fun a => ob (s_l9Cut n a (c2' h.length : Int)) fun x => some (x, true)) 10000 n (big_gt hn (by omega)) ?_ ?_ ?_ ?_ (by omega) |>.trans ?_
    · intro self i a hi h0 h1
      simp only [s_MeanDiffer_L2]
      rw [br_pos (decide_eq_true (show (i : Int) < (h.length : Int) by omega))]; rfl
    · intro self self2 i k a hi hk h0 h1
      simp only [s_MeanDiffer_L1, lt_eq]
      rw [br_pos (decide_eq_true (show (k : Int) < (i : Int) by omega)), ckb_pos (inb_ok hi), ckb_pos (inb_ok (by omega)), toNat_cast, toNat_cast, s_l2Differ_eq hn, ob_some, w64_succ (k := k) (by omega)]
      rw [difN_cast] at h1 ⊢
      have hd := dif_bd (gz h i) (gz h k)
      rw [w64_id (x := a + dif (gz h i) (gz h k)) (by omega)]
    · intro self self2 i a hi h0 h1
      simp only [s_MeanDiffer_L1, lt_eq]
      rw [br_neg (decide_eq_false (by omega)), w64_succ (by omega)]
    · intro self a h0 h1
      simp only [s_MeanDiffer_L2]
      have ec := (choose_eq hn (a := h.length) (k := 2) (by omega) (.inl (by omega))).1
      rw [chof2 (by omega)] at ec
      have ec' : s_l9Choose n (h.length : Int) 2 = some ((c2' h.length : Nat) : Int) := ec
      rw [br_neg (decide_eq_false (by omega)), ec', ob_some]
    · rw [s_l9Cut_eq hn (by omega) (by omega) (by omega), ob_some]
theorem i_MeanDiffer_eq {n : Nat} (hn : BIG ≤ n) {h : List Card} (hl : h.length ≤ 1048576) : i_MeanDiffer n h = some (MD h) := by
  unfold i_MeanDiffer MD
  rw [i_IsHand_eq hn (by omega)]
  simp only [ob_some, br_some, lt_eq, dcond]
  cases hc : (hand h && decide (2 ≤ h.length)) with
  | false => rfl
  | true =>
    rw [Bool.and_eq_true, decide_eq_true_eq] at hc
    have hlen := hand_len hc.1
    have c27 : c2' 27 = 351 := by decide
    have c2 : c2' 2 = 1 := by decide
    have h1 := c2'_le hlen; have h2 := c2'_le hc.2
    have h3 := difT_le h
    rw [Bool.not_true, br_false, if_pos rfl]
    unfold difT at h3 ⊢
    have hsl : ∀ i, i ≤ h.length → (sub h 0 i).length = i := fun i hi => by simp [sub]; omega
    refine fx_tri (B := i_MeanDiffer_L2 n) (C := i_MeanDiffer_L1 n) h.length (fun i a => (h, a, h, (h.length : Int), (i : Int), ⟨0, 0⟩)) (fun i k a => (h, a, h, (h.length : Int), (i : Int), sub h 0 i, ((sub h 0 i).length : Int), (k : Int), ⟨0, 0⟩, gl ⟨0, 0, 0, 0⟩ h i)) (fun i k => difN (gz h i) (gz h k)) (fun a => ob (i_fraction n a (c2' h.length : Int)) fun x => some (x.1, x.2)) 10000 n (big_gt hn (by omega)) ?_ ?_ ?_ ?_ (by omega) |>.trans ?_
    · intro self i a hi h0 h1
      simp only [i_MeanDiffer_L2]
      rw [br_pos (decide_eq_true (show (i : Int) < (h.length : Int) by omega)), ckb_pos (inb_ok hi), ckb_pos (slb_ok (by omega) (by omega) (by omega)), toNat_cast]; rfl
    · intro self self2 i k a hi hk h0 h1
      simp only [i_MeanDiffer_L1, lt_eq]
      have e : gl (⟨0, 0, 0, 0⟩ : Card) (sub h 0 i) k = gz h k := by
        unfold sub
        rw [List.drop_zero, gl_eq (by simp; omega), List.getElem_take]
        show _ = gl _ h k
        rw [gl_eq (show k < h.length by omega)]
      rw [br_pos (decide_eq_true (show (k : Int) < ((sub h 0 i).length : Int) by rw [hsl i (by omega)]; omega)), ckb_pos (inb_ok (by rw [hsl i (by omega)]; exact hk)), toNat_cast, e, i_differ_eq hn, ob_some, w64_succ (k := k) (by omega)]
      rw [difN_cast] at h1 ⊢
      have hd := dif_bd (gz h i) (gz h k)
      rw [w64_id (x := a + dif (gz h i) (gz h k)) (by omega)]
    · intro self self2 i a hi h0 h1
      simp only [i_MeanDiffer_L1, lt_eq]
      rw [br_neg (decide_eq_false (by rw [hsl i (by omega)]; omega)), w64_succ (by omega)]
    · intro self a h0 h1
      simp only [i_MeanDiffer_L2]
      have ec := (choose_eq hn (a := h.length) (k := 2) (by omega) (.inl (by omega))).2.1
      rw [chof2 (by omega)] at ec
      have ec' : i_choose n (h.length : Int) 2 = some ((c2' h.length : Nat) : Int) := ec
      rw [br_neg (decide_eq_false (by omega)), ec', ob_some]
    · rw [i_fraction_eq hn (by omega) (by omega) (by omega), ob_some]
end Go.Pl

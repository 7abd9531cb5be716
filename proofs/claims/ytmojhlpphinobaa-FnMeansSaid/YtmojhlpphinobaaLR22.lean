/- Plain laws: R22. -/
import Derived.Test.YtmojhlpphinobaaLLMn
import Derived.Test.YtmojhlpphinobaaLR13
set_option linter.unusedVariables false
set_option linter.unusedSimpArgs false
namespace Go.Pl
open Go Go.Tv Go.RowKit
set_option linter.unusedVariables false
set_option linter.unusedSimpArgs false

def ByB (a : List Int) : Prop := ∀ x, x ∈ a → 0 ≤ x ∧ x ≤ 255
theorem vCut_J1_ok {n : Nat} {a : List Int} (h : ByB a) (hl : a.length ≤ 65536) {k : Nat} (hk : k ≤ a.length) (hk2 : k ≤ 255) : ∃ b, v_vCut_J1 n (a, (k : Int)) = some b ∧ ByB b ∧ b.length ≤ 65537 := by
  unfold v_vCut_J1
  simp only [toNat_cast]
  have hsl : (sub a k a.length).length = a.length - k := by simp [sub]
  rw [ckb_pos (slb_ok (by omega) (by omega) (by omega)), ckb_pos (apok_ok (by rw [hsl]; omega) (by rw [hsl]; omega)), lt_eq, ckb_pos (apok_ok (by rw [hsl]; omega) (by rw [hsl]; omega))]
  refine ⟨_, rfl, fun x hx => ?_, by rw [List.length_append, hsl, List.length_singleton]; omega⟩
  rcases List.mem_append.1 hx with hx | hx
  · exact h x (List.mem_of_mem_drop (List.mem_of_mem_take hx))
  · rw [List.mem_singleton] at hx
    rw [hx]
    simp only [IntKind.wrap, IntKind.bits, IntKind.signed]
    simp
    omega
theorem vCut_ok {n : Nat} {a : List Int} (h : ByB a) (hl : a.length ≤ 65536) {k : Nat} (hk2 : k ≤ 255) : ∃ b, v_vCut n a (k : Int) = some b ∧ ByB b ∧ b.length ≤ 65537 := by
  unfold v_vCut
  rw [br_dec]
  split
  · exact vCut_J1_ok h hl (Nat.le_refl _) (by omega)
  · exact vCut_J1_ok h hl (by omega) hk2
theorem sub_among {l : List Int} {k : Nat} (hk : k ≤ l.length) (hk1 : 1 ≤ k) (lo hi : Int) (hl : ∀ x ∈ l, lo ≤ x ∧ x ≤ hi) : 1 ≤ (sub l 0 (0 + k)).length ∧ ∀ x ∈ sub l 0 (0 + k), lo ≤ x ∧ x ≤ hi := by
  unfold sub
  refine ⟨by simp; omega, fun x hx => hl x (List.mem_of_mem_drop (List.mem_of_mem_take hx))⟩
theorem DrawMeanLines_ok (n : Nat) {a : List Int} (h : ByB a) : ∃ r, s_DrawMeanLines n a = some r ∧ -1 ≤ r ∧ r ≤ 28 := by
  unfold s_DrawMeanLines
  obtain ⟨q, c1, e1, k1, q0, q1⟩ := pick_ok n (cu0 h) (by omega) (a := 24) (by omega)
  rw [lt_eq, e1, ob_some]
  simp only [lt_eq]
  have hq : Int.tdiv q 11 = q / 11 := Int.tdiv_eq_ediv_of_nonneg q0
  rw [hq, w64_id (x := q / 11) (by omega), w64_id (x := 8 + q / 11) (by omega), ckb_pos (slb_ok (by omega) (by omega) (by omega)), w64_id (by omega)]
  obtain ⟨s1, s2⟩ := sub_among (l := [12, 3, 15, 2, 27, 0, 9, 20, 28, (-1)]) (k := (8 + q / 11 - 0).toNat) (by simp; omega) (by omega) (-1) 28 (by decide)
  obtain ⟨r, c2, e2, k2, hr⟩ := among_ok n k1 (by omega) s1
  rw [e2, ob_some]
  exact ⟨r, rfl, s2 r hr⟩
theorem DrawMeanAfter_ok {n : Nat} (hn : BIG ≤ n) {a : List Int} (h : ByB a) : ∃ k h', s_DrawMeanAfter n a = some (k, h') ∧ h'.length ≤ 29 := by
  unfold s_DrawMeanAfter
  obtain ⟨c0, hd, e0, hl, k0⟩ := dense_ok hn (cu0 h) (by omega)
  rw [lt_eq, e0, ob_some]
  obtain ⟨q, c1, e1, k1, q0, q1⟩ := pick_ok n k0 (by omega) (a := 24) (by omega)
  rw [e1, ob_some]
  simp only [lt_eq]
  have hq : Int.tdiv q 11 = q / 11 := Int.tdiv_eq_ediv_of_nonneg q0
  rw [hq, w64_id (x := q / 11) (by omega), w64_id (x := 3 + q / 11) (by omega), ckb_pos (slb_ok (by omega) (by omega) (by omega)), w64_id (by omega)]
  obtain ⟨s1, s2⟩ := sub_among (l := [1, 2, 0, 3, (-1)]) (k := (3 + q / 11 - 0).toNat) (by simp; omega) (by omega) (-1) 3 (by decide)
  obtain ⟨r, c2, e2, k2, hr⟩ := among_ok n k1 (by omega) s1
  rw [e2, ob_some]
  exact ⟨r, hd, rfl, hl⟩
theorem DrawBestThird_ok {n : Nat} (hn : BIG ≤ n) {a : List Int} (h : ByB a) : ∃ h', s_DrawBestThird n a = some h' ∧ h'.length ≤ 29 := by
  unfold s_DrawBestThird s_DrawChanceLine
  obtain ⟨c0, hd, e0, hl, k0⟩ := dense_ok hn (cu0 h) (by omega)
  rw [lt_eq, e0, ob_some]
  exact ⟨hd, rfl, hl⟩
theorem DrawChanceNoLine_ok (n : Nat) {a : List Int} (h : ByB a) : ∃ r, s_DrawChanceNoLine n a = some r ∧ -1 ≤ r ∧ r ≤ 5 := by
  unfold s_DrawChanceNoLine
  obtain ⟨r, c2, e2, k2, hr⟩ := among_ok n (cu0 h) (by omega) (l := [3, 4, 2, 0, 1, 5, (-1)]) (by decide)
  rw [lt_eq, e2, ob_some]
  exact ⟨r, rfl, mem_small hr (-1) 5 (by decide)⟩
theorem v_vLess_eq (n : Nat) (a b : V2 Int) : v_vLess n a b = some (decide (w64 (a.x0 * b.x1) < w64 (b.x0 * a.x1))) := rfl

/-! means of so many cards, chances of no line: few inputs -/
noncomputable def ckML (m : Nat) : Bool := (List.range 30).all fun k => match i_MeanLines (m + 200) ((k : Int) - 1), s_MeanLines (m + 200) ((k : Int) - 1) with
  | some a, some b => eqd a.1 b.1 && (a.2 == b.2) && (!a.2 || decide (w64 (474 * a.1.x0) = w64 (w64 (w64 (a.1.x1 * ((k : Int) - 1)) * w64 ((k : Int) - 1 - 1)) * w64 ((k : Int) - 1 - 2))))
  | _, _ => false
theorem ckML_ok (m : Nat) : ckML m = true := by kernel_rfl
noncomputable def ckNL (m : Nat) : Bool := (List.range 7).all fun k => match i_ChanceNoLine (m + 200) ((k : Int) - 1), s_ChanceNoLine (m + 200) ((k : Int) - 1) with
  | some a, some b => eqd a.1 b.1 && (a.2 == b.2) && (!a.2 || !decide (w64 (1 * a.1.x1) < w64 (a.1.x0 * 1)))
  | _, _ => false
theorem ckNL_ok (m : Nat) : ckNL m = true := by kernel_rfl
theorem MeanLines_ok {n : Nat} (hn : BIG ≤ n) {k : Int} (h0 : -1 ≤ k) (h1 : k ≤ 28) : ∃ v : (V2 Int) × Bool, i_MeanLines n k = some v ∧ s_MeanLines n k = some v ∧ (v.2 = true → w64 (474 * v.1.x0) = w64 (w64 (w64 (v.1.x1 * k) * w64 (k - 1)) * w64 (k - 2))) := by
  obtain ⟨m, rfl⟩ : ∃ m, n = m + 200 := ⟨n - 200, by unfold BIG at hn; omega⟩
  have := List.all_eq_true.1 (ckML_ok m) (k + 1).toNat (List.mem_range.2 (by omega))
  have e : (((k + 1).toNat : Nat) : Int) - 1 = k := by omega
  simp only [e] at this
  cases hi : i_MeanLines (m + 200) k with
  | none => rw [hi] at this; cases this
  | some a =>
    rw [hi] at this
    cases hs : s_MeanLines (m + 200) k with
    | none => rw [hs] at this; cases this
    | some b =>
      rw [hs] at this
      simp only [Bool.and_eq_true, Bool.or_eq_true, beq_iff_eq, eqd, decide_eq_true_eq] at this
      refine ⟨a, rfl, ?_, fun ht => ?_⟩
      · congr 1; exact Prod.ext this.1.1.symm this.1.2.symm
      · rcases this.2 with h | h
        · rw [ht] at h; cases h
        · exact h
theorem ChanceNoLine_ok {n : Nat} (hn : BIG ≤ n) {k : Int} (h0 : -1 ≤ k) (h1 : k ≤ 5) : ∃ v : (V2 Int) × Bool, i_ChanceNoLine n k = some v ∧ s_ChanceNoLine n k = some v ∧ (v.2 = true → ¬ w64 (1 * v.1.x1) < w64 (v.1.x0 * 1)) := by
  obtain ⟨m, rfl⟩ : ∃ m, n = m + 200 := ⟨n - 200, by unfold BIG at hn; omega⟩
  have := List.all_eq_true.1 (ckNL_ok m) (k + 1).toNat (List.mem_range.2 (by omega))
  have e : (((k + 1).toNat : Nat) : Int) - 1 = k := by omega
  simp only [e] at this
  cases hi : i_ChanceNoLine (m + 200) k with
  | none => rw [hi] at this; cases this
  | some a =>
    rw [hi] at this
    cases hs : s_ChanceNoLine (m + 200) k with
    | none => rw [hs] at this; cases this
    | some b =>
      rw [hs] at this
      simp only [Bool.and_eq_true, Bool.or_eq_true, beq_iff_eq, eqd, decide_eq_true_eq, Bool.not_eq_true', decide_eq_false_iff_not] at this
      refine ⟨a, rfl, ?_, fun ht => ?_⟩
      · congr 1; exact Prod.ext this.1.1.symm this.1.2.symm
      · rcases this.2 with h | h
        · rw [ht] at h; cases h
        · exact h
theorem i_LinesThrough_eq {n : Nat} (hn : BIG ≤ n) {h : List Card} (hl : h.length ≤ 1048576) (c : Card) : i_LinesThrough n h c = some (if hand h && isC c then ((thr h c : Int), true) else (0, false)) := by
  unfold i_LinesThrough
  rw [i_IsHand_eq hn (by omega), i_IsCard_eq hn]
  simp only [ob_some, br_some]
  cases hh : hand h with
  | false => rfl
  | true =>
    cases hc : isC c with
    | false => rfl
    | true =>
      show br false _ _ = _
      rw [br_false, i_pairsFor_eq hn (HandL.of hh), ob_some]; rfl
/-- the last words -/
theorem means_J1 {n : Nat} (u : List Card) (hl : u.length ≤ 1048576) {w : (V2 Int) × Bool} (hw : w.2 = true → ¬ w64 (1 * w.1.x1) < w64 (w.1.x0 * 1)) : v_FnMeans_J1 n ((MD u).2, w.2, (MD u).1, w.1) = some true := by
  unfold v_FnMeans_J1
  simp only [lt_eq, v_vLess_eq, br_some, ob_some]
  have h1 : (if (MD u).2 = true then (if decide (w64 ((MD u).1.x0 * 1) < w64 (1 * (MD u).1.x1)) = true then true else decide (w64 (4 * (MD u).1.x1) < w64 ((MD u).1.x0 * 1))) else false) = false := by
    unfold MD
    split
    · rename_i hc
      rw [Bool.and_eq_true, decide_eq_true_eq] at hc
      have c2 : c2' 2 = 1 := by decide
      have c27 : c2' 27 = 351 := by decide
      have h2 := c2'_le hc.2
      have h27 := c2'_le (hand_len hc.1)
      have hle := difT_le u
      have hge := difT_ge (HandL.of hc.1)
      obtain ⟨p, q, e, hpq, hq, hp1, hq1⟩ := FR_cross (a := difT u) (b := c2' u.length) (by omega)
      rw [e]
      have g1 : q ≤ p := by
        refine Classical.byContradiction fun hx => ?_
        have a1 : p * c2' u.length < q * c2' u.length := Nat.mul_lt_mul_of_pos_right (by omega) (by omega)
        have a2 : c2' u.length * q ≤ difT u * q := Nat.mul_le_mul_right _ hge
        rw [Nat.mul_comm q] at a1; omega
      have g2 : p ≤ 4 * q := by
        refine Classical.byContradiction fun hx => ?_
        have a1 : 4 * q * c2' u.length < p * c2' u.length := Nat.mul_lt_mul_of_pos_right (by omega) (by omega)
        have a2 : difT u * q ≤ c2' u.length * 4 * q := Nat.mul_le_mul_right _ hle
        rw [show 4 * q * c2' u.length = c2' u.length * 4 * q by rw [Nat.mul_comm (4 * q), Nat.mul_assoc]] at a1; omega
      simp only []
      rw [w64_id (x := (p : Int) * 1) (by omega), w64_id (x := 1 * (q : Int)) (by omega), w64_id (x := 4 * (q : Int)) (by omega), decide_eq_false (by omega), decide_eq_false (by omega)]
      rfl
    · rfl
  rw [h1, if_neg (by simp)]
  cases hw2 : w.2 with
  | false => rfl
  | true =>
    rw [decide_eq_false (hw hw2)]; rfl
theorem means_J3 {n : Nat} (hn : BIG ≤ n) (u : List Card) (hl : u.length ≤ 1048576) {w : (V2 Int) × Bool} (hw : w.2 = true → ¬ w64 (1 * w.1.x1) < w64 (w.1.x0 * 1)) :
    v_FnMeans_J3 n ((BT u).1, (BT u).2.1, (BT u).2.2, (MD u).2, w.2, u, (MD u).1, w.1) = some true := by
  have hJ1 := means_J1 (n := n) u hl hw
  unfold v_FnMeans_J3
  simp only []
  cases hh : hand u with
  | false =>
    have : (BT u).2.2 = false := by unfold BT; rw [hh]; rfl
    rw [this, br_false]; exact hJ1
  | true =>
    have hB : BT u = ((btK u 81).1, (btK u 81).2, true) := by unfold BT; rw [hh]; rfl
    obtain ⟨H, hlen, hL, hr, hrc, ht, hc2, hc2p, hbo⟩ := MB.of hh
    obtain ⟨b1, b2', b3⟩ := btK_best H.c 81 (Nat.le_refl _)
    have hne : restK u 81 ≠ [] := fun e => by
      have : (rest u).length = 0 := by unfold rest; rw [e]; rfl
      omega
    obtain ⟨j, j1, j2, j3, j4⟩ := b2' hne
    rw [hB]
    simp only [br_true]
    have ej : A1 (btK u 81).1 = (cardAt (j : Int), true) := by
      unfold A1; rw [j3, if_pos (by omega)]
    rw [i_CardAt_eq, ob_some, ej, i_LinesThrough_eq hn hl, ob_some, i_DropCard_eq hn (by omega), ob_some, hh, cardAt_isC (by omega), j2]
    simp only [Bool.and_self, if_true, Bool.and_false, Bool.false_eq_true, if_false, Bool.not_true, br_some, ob_some]
    rw [j4, decide_eq_true rfl]
    simp only [Bool.not_true, br_false]
    rw [← j4]
    refine fx_cnt (B := v_FnMeans_L2 n) 81 (fun i => ((btK u 81).1, (btK u 81).2, (MD u).2, w.2, (i : Int), u, (MD u).1, w.1)) (fun _ => True) (fun _ => some true) (fun self i hi _ ih => ?_) n 0 (by omega) trivial (big_gt hn (by omega))
    simp only [v_FnMeans_L2, lt_eq]
    by_cases hlt : i < 81
    · have ei : A1 (i : Int) = (cardAt (i : Int), true) := by unfold A1; rw [if_pos (by omega)]
      rw [br_pos (decide_eq_true (show (i : Int) < 81 by omega)), i_CardAt_eq, ob_some, ei, i_LinesThrough_eq hn hl, ob_some, i_DropCard_eq hn (by omega), ob_some, hh, cardAt_isC (by omega), w64_succ (by omega)]
      simp only [Bool.and_self, if_true, Bool.true_and, Bool.not_true, br_some, ob_some, Bool.false_eq_true, if_false]
      have key : (if (!(if u.contains (cardAt (i : Int)) = true then (true, wo u (cardAt (i : Int))) else (false, [])).1) = true then (if decide ((btK u 81).2 < (thr u (cardAt (i : Int)) : Int)) = true then true else (if decide ((thr u (cardAt (i : Int)) : Int) = (btK u 81).2) = true then decide ((i : Int) < (btK u 81).1) else false)) else false) = false := by
        cases hc : u.contains (cardAt (i : Int)) with
        | true => rfl
        | false =>
          obtain ⟨c1, c2⟩ := b1 i hlt hc
          simp only [Bool.false_eq_true, if_false, Bool.not_false, if_true]
          rw [decide_eq_false (show ¬ (btK u 81).2 < (thr u (cardAt (i : Int)) : Int) by omega)]
          by_cases he : (thr u (cardAt (i : Int)) : Int) = (btK u 81).2
          · rw [decide_eq_true he, decide_eq_false (show ¬ (i : Int) < (btK u 81).1 by have := c2 he; omega)]; rfl
          · rw [decide_eq_false he]; rfl
      rw [key, br_false]
      exact ih hlt trivial
    · have : i = 81 := by omega
      subst this
      rw [br_neg (decide_eq_false (by omega))]
      exact hJ1
/-- the mean of a hand with more cards -/
theorem MAv_bd {h : List Card} (hh : hand h = true) {k : Int} (hk : 0 ≤ k ∧ k ≤ 2) : ∃ p q : Nat, MAv h k = ⟨(p : Int), (q : Int)⟩ ∧ 0 < q ∧ q ≤ 3240 ∧ p ≤ 10000000 ∧ (linesOf h).length * q ≤ p ∧ (k = 0 → p = (linesOf h).length ∧ q = 1) ∧ (k = 1 → p * (rest h).length = ((linesOf h).length * (rest h).length + opn h) * q) := by
  obtain ⟨H, hlen, hL, hr, hrc, ht, hc2, hc2p, hbo⟩ := MB.of hh
  have hmul : (linesOf h).length * (rest h).length ≤ 729 * 81 := Nat.mul_le_mul hL (by omega)
  have hmul2 : (linesOf h).length * c2' (rest h).length ≤ 729 * 3240 := Nat.mul_le_mul hL hc2
  have hmul3 : tot h * ((rest h).length - 1) ≤ 351 * 81 := Nat.mul_le_mul ht (by omega)
  have key : ∀ A B p q : Nat, p * B = A * q → 0 < B → (linesOf h).length * B ≤ A → (linesOf h).length * q ≤ p := fun A B p q h1 h2 h3 => by
    have : (linesOf h).length * B * q ≤ A * q := Nat.mul_le_mul_right _ h3
    rw [← h1] at this
    refine Nat.le_of_mul_le_mul_right (c := B) ?_ h2
    rw [Nat.mul_right_comm]; exact this
  unfold MAv
  by_cases h0 : k = 0
  · rw [if_pos h0, FR_one]
    exact ⟨(linesOf h).length, 1, rfl, by omega, by omega, by omega, by omega, fun _ => ⟨rfl, rfl⟩, fun h => by omega⟩
  · rw [if_neg h0]
    by_cases h1 : k = 1
    · rw [if_pos h1]
      obtain ⟨p, q, e, hpq, hq, hp1, hq1⟩ := FR_cross (a := (linesOf h).length * (rest h).length + tot h) (b := (rest h).length) (by omega)
      refine ⟨p, q, e, hq, by omega, by omega, key _ _ p q hpq (by omega) (by omega), fun h => absurd h h0, fun _ => ?_⟩
      rw [← tot_open H]; exact hpq
    · rw [if_neg h1]
      obtain ⟨p, q, e, hpq, hq, hp1, hq1⟩ := FR_cross (a := (linesOf h).length * c2' (rest h).length + tot h * ((rest h).length - 1) + both h (rest h)) (b := c2' (rest h).length) (by omega)
      exact ⟨p, q, e, hq, by omega, by omega, key _ _ p q hpq (by omega) (by omega), fun h => absurd h h0, fun h => absurd h h1⟩
theorem law_FnMeans {n : Nat} (hn : BIG ≤ n) (a : List Int) (ok : (Ty.sl (.int .u8)).ok a) : v_FnMeans n a = some true := by
  have hb : ByB a := ok_bytes' ok
  unfold v_FnMeans v_vBig
  rw [ob_some, br_dec]
  split
  · rfl
  rename_i hbig
  have hal : a.length ≤ 65536 := by omega
  obtain ⟨k, e1, k0, k1⟩ := DrawMeanLines_ok n hb
  obtain ⟨v, e2, e3, hv⟩ := MeanLines_ok hn k0 k1
  obtain ⟨b, e4, hbb, _⟩ := vCut_ok (n := n) hb hal (k := 1) (by omega)
  have e4' : v_vCut n a 1 = some b := e4
  obtain ⟨t, h, e5, hl⟩ := DrawMeanAfter_ok hn hbb
  obtain ⟨d, e6, hdb, _⟩ := vCut_ok (n := n) hb hal (k := 2) (by omega)
  have e6' : v_vCut n a 2 = some d := e6
  obtain ⟨u, e7, hul⟩ := DrawBestThird_ok hn hdb
  obtain ⟨q, e8, q0, q1⟩ := DrawChanceNoLine_ok n hb
  obtain ⟨w, e9, e10, hw⟩ := ChanceNoLine_ok hn q0 q1
  have hJ3 := means_J3 hn u (by omega) hw
  rw [e1, ob_some, e2, ob_some, e3, ob_some, e4', ob_some, e5, ob_some]
  simp only []
  rw [i_MeanAfter_eq hn (by omega), ob_some, s_MeanAfter_eq hn (by omega), ob_some, e6', ob_some, e7, ob_some, i_BestThird_eq hn (by omega), ob_some, s_BestThird_eq hn (by omega), ob_some, i_MeanDiffer_eq hn (by omega), ob_some, s_MeanDiffer_eq hn (by omega), ob_some, e8, ob_some, e9, ob_some, e10, ob_some]
  have es : ∀ x : V2 Int, eqd x x = true := fun x => by simp [eqd]
  simp only [es, beq_self_eq_true, decide_true, Bool.not_true, br_some, ob_some, Bool.false_eq_true, if_false, br_false, lt_eq]
  have c1 : (if v.2 = true then !decide (w64 (474 * v.1.x0) = w64 (w64 (w64 (v.1.x1 * k) * w64 (k - 1)) * w64 (k - 2))) else false) = false := by
    cases hv2 : v.2 with
    | false => rfl
    | true => rw [decide_eq_true (hv hv2)]; rfl
  rw [c1, br_false]
  unfold MA
  split
  · rename_i hc
    rw [Bool.and_eq_true, decide_eq_true_eq] at hc
    obtain ⟨hh, ht⟩ := hc
    have hlen := hand_len hh
    have hL := lines_len27 hh
    obtain ⟨p, m, e, hm, hm2, hp2, hge, hk0, hk1⟩ := MAv_bd hh ht
    have hB := MB.of hh
    have hmL : (linesOf h).length * m ≤ 729 * 3240 := Nat.mul_le_mul hL hm2
    have eL : (((linesOf h).length : Int) * (m : Int)) = (((linesOf h).length * m : Nat) : Int) := by simp
    rw [e]
    simp only [br_true]
    rw [i_LinesIn_eq hn (by omega), ob_some, hh]
    simp only [if_true, Bool.not_true, Bool.false_eq_true, if_false, v_vLess_eq, ob_some]
    have c2 : (if decide (t = 0) = true then !eqd (⟨(p : Int), (m : Int)⟩ : V2 Int) ⟨((linesOf h).length : Int), 1⟩ else false) = false := by
      by_cases h0 : t = 0
      · obtain ⟨g1, g2⟩ := hk0 h0
        subst g1 g2
        rw [decide_eq_true h0]
        simp [eqd]
      · rw [decide_eq_false h0]; rfl
    rw [c2, w64_id (x := (p : Int) * 1) (by omega), eL, w64_id (by omega), decide_eq_false (by omega)]
    simp only [Bool.false_eq_true, if_false, br_false]
    rw [br_dec]
    split
    · rename_i h1
      rw [i_OpenPairs_eq hn (by omega), ob_some]
      have hO : OP h = ((opn h : Int), true) := by unfold OP; rw [hh]; rfl
      rw [hO]
      simp only [Bool.not_true, br_false, ob_some]
      have hr := hB.r
      have ho : opn h ≤ 351 := by rw [← tot_open hB.H]; exact hB.t
      have e81 : (81 : Int) - (h.length : Int) = ((rest h).length : Int) := by omega
      have hx := hk1 h1
      have m1 : p * (rest h).length ≤ 10000000 * 81 := Nat.mul_le_mul hp2 (by omega)
      have m2 : (linesOf h).length * (rest h).length ≤ 729 * 81 := Nat.mul_le_mul hL (by omega)
      have g1 : ((p : Int) * ((rest h).length : Int)) = ((p * (rest h).length : Nat) : Int) := by simp
      have g2 : (((linesOf h).length : Int) * ((rest h).length : Int)) = (((linesOf h).length * (rest h).length : Nat) : Int) := by simp
      have g3 : ((((linesOf h).length * (rest h).length : Nat) : Int) + (opn h : Int)) = (((linesOf h).length * (rest h).length + opn h : Nat) : Int) := by omega
      have g4 : ((((linesOf h).length * (rest h).length + opn h : Nat) : Int) * (m : Int)) = ((((linesOf h).length * (rest h).length + opn h) * m : Nat) : Int) := by simp
      rw [e81, w64_id (x := ((rest h).length : Int)) (by omega), g1, g2, w64_id (x := (((linesOf h).length * (rest h).length : Nat) : Int)) (by omega), g3, w64_id (x := (((linesOf h).length * (rest h).length + opn h : Nat) : Int)) (by omega), g4, hx, decide_eq_true rfl]
      simp only [Bool.not_true, br_false]
      exact hJ3
    · exact hJ3
  · simp only [br_false]
    exact hJ3
end Go.Pl

/- Plain laws: LSpw. -/
import Derived.Test.YtfoielhhflbbfaaLLSpi
import Derived.Test.YtfoielhhflbbfaaLLFl
set_option linter.unusedVariables false
set_option linter.unusedSimpArgs false
namespace Go.Pl
open Go Go.Tv Go.RowKit
set_option linter.unusedVariables false
set_option linter.unusedSimpArgs false
def wB (w : Card) : Bool := if w.x0 = 0 then (if w.x1 = 0 then (if w.x2 = 0 then decide (w.x3 = 1) && isC w else decide (w.x2 = 1) && isC w) else decide (w.x1 = 1) && isC w) else decide (w.x0 = 1) && isC w
theorem br_and (a b : Bool) : (ob (br a (ob (some b) fun r => some r) (some false)) fun x => some x) = some (a && b) := by cases a <;> cases b <;> rfl
theorem inb4 : inb 0 4 = true ∧ inb 1 4 = true ∧ inb 2 4 = true ∧ inb 3 4 = true := ⟨rfl, rfl, rfl, rfl⟩
theorem w64s : w64 (0 + 1) = 1 ∧ w64 (1 + 1) = 2 ∧ w64 (2 + 1) = 3 ∧ w64 (3 + 1) = 4 := by decide
theorem i_IsWeight_eq {n : Nat} (hn : BIG ≤ n) (w : Card) : i_IsWeight n w = some (wB w) := by
  obtain ⟨q, rfl⟩ : ∃ q, n = q + 5 := ⟨n - 5, by unfold BIG at hn; omega⟩
  obtain ⟨i0, i1, i2, i3⟩ := inb4
  obtain ⟨w0, w1, w2, w3⟩ := w64s
  have hc := i_IsCard_eq hn w
  unfold i_IsWeight wB
  by_cases h0 : w.x0 = 0
  · by_cases h1 : w.x1 = 0
    · by_cases h2 : w.x2 = 0
      · by_cases h3 : w.x3 = 0
        · simp [fx_succ, i_IsWeight_L1, V4.get, h0, h1, h2, h3, i0, i1, i2, i3, w0, w1, w2, w3]
        · simp [fx_succ, i_IsWeight_L1, V4.get, h0, h1, h2, h3, i0, i1, i2, i3, w0, w1, w2, w3, hc]
          exact br_and _ _
      · simp [fx_succ, i_IsWeight_L1, V4.get, h0, h1, h2, i0, i1, i2, i3, w0, w1, w2, w3, hc]
        exact br_and _ _
    · simp [fx_succ, i_IsWeight_L1, V4.get, h0, h1, i0, i1, i2, i3, w0, w1, w2, w3, hc]
      exact br_and _ _
  · simp [fx_succ, i_IsWeight_L1, V4.get, h0, i0, i1, i2, i3, w0, w1, w2, w3, hc]
    exact br_and _ _
theorem s_l6Weight_eq {n : Nat} (hn : BIG ≤ n) (w : Card) : s_l6Weight n w = some (wB w) := by
  obtain ⟨q, rfl⟩ : ∃ q, n = q + 5 := ⟨n - 5, by unfold BIG at hn; omega⟩
  obtain ⟨i0, i1, i2, i3⟩ := inb4
  obtain ⟨w0, w1, w2, w3⟩ := w64s
  have hc := s_l2Card_eq hn w
  unfold s_l6Weight wB
  by_cases h0 : w.x0 = 0
  · by_cases h1 : w.x1 = 0
    · by_cases h2 : w.x2 = 0
      · by_cases h3 : w.x3 = 0
        · simp [fx_succ, s_l6Weight_L1, V4.get, h0, h1, h2, h3, i0, i1, i2, i3, w0, w1, w2, w3]
        · simp [fx_succ, s_l6Weight_L1, V4.get, h0, h1, h2, h3, i0, i1, i2, i3, w0, w1, w2, w3, hc]
          exact br_and _ _
      · simp [fx_succ, s_l6Weight_L1, V4.get, h0, h1, h2, i0, i1, i2, i3, w0, w1, w2, w3, hc]
        exact br_and _ _
    · simp [fx_succ, s_l6Weight_L1, V4.get, h0, h1, i0, i1, i2, i3, w0, w1, w2, w3, hc]
      exact br_and _ _
  · simp [fx_succ, s_l6Weight_L1, V4.get, h0, i0, i1, i2, i3, w0, w1, w2, w3, hc]
    exact br_and _ _
theorem wB_isC {w : Card} (h : wB w = true) : isC w = true := by
  unfold wB at h
  split at h
  · split at h
    · split at h
      · exact (Bool.and_eq_true _ _ ▸ h).2
      · exact (Bool.and_eq_true _ _ ▸ h).2
    · exact (Bool.and_eq_true _ _ ▸ h).2
  · exact (Bool.and_eq_true _ _ ▸ h).2
def val (c w : Card) : Int := (w.x0 * c.x0 + w.x1 * c.x1 + w.x2 * c.x2 + w.x3 * c.x3) % 3
theorem val_bd (c w : Card) : val c w = 0 ∨ val c w = 1 ∨ val c w = 2 := by unfold val; omega
theorem mul_bd {a b : Int} (ha : 0 ≤ a ∧ a ≤ 2) (hb : 0 ≤ b ∧ b ≤ 2) : 0 ≤ a * b ∧ a * b ≤ 4 := by
  rcases (show a = 0 ∨ a = 1 ∨ a = 2 by omega) with rfl | rfl | rfl <;> omega
theorem s_l6Value_eq {n : Nat} {c w : Card} (hc : isC c = true) (hw : isC w = true) : s_l6Value n c w = some (val c w) := by
  have hc := isC_iff.1 hc
  have hw := isC_iff.1 hw
  have m0 := mul_bd hw.1 hc.1
  have m1 := mul_bd hw.2.1 hc.2.1
  have m2 := mul_bd hw.2.2.1 hc.2.2.1
  have m3 := mul_bd hw.2.2.2 hc.2.2.2
  unfold s_l6Value val
  simp only [lt_eq]
  rw [Int.mul_comm c.x0, Int.mul_comm c.x1, Int.mul_comm c.x2, Int.mul_comm c.x3, w64_id (x := w.x0 * c.x0) (by omega), w64_id (x := w.x1 * c.x1) (by omega), w64_id (x := w.x2 * c.x2) (by omega), w64_id (x := w.x3 * c.x3) (by omega), w64_id (x := w.x0 * c.x0 + w.x1 * c.x1) (by omega), w64_id (x := w.x0 * c.x0 + w.x1 * c.x1 + w.x2 * c.x2) (by omega), w64_id (x := w.x0 * c.x0 + w.x1 * c.x1 + w.x2 * c.x2 + w.x3 * c.x3) (by omega), Int.tmod_eq_emod_of_nonneg (by omega)]
theorem i_value_eq {n : Nat} (hn : BIG ≤ n) {c w : Card} (hc : isC c = true) (hw : isC w = true) : i_value n c w = some (val c w) := by
  have hc := isC_iff.1 hc
  have hw := isC_iff.1 hw
  have m0 := mul_bd hw.1 hc.1
  have m1 := mul_bd hw.2.1 hc.2.1
  have m2 := mul_bd hw.2.2.1 hc.2.2.1
  have m3 := mul_bd hw.2.2.2 hc.2.2.2
  obtain ⟨q, rfl⟩ : ∃ q, n = q + 5 := ⟨n - 5, by unfold BIG at hn; omega⟩
  obtain ⟨i0, i1, i2, i3⟩ := inb4
  obtain ⟨w0, w1, w2, w3⟩ := w64s
  unfold i_value val
  simp [fx_succ, i_value_L1, V4.get, i0, i1, i2, i3, w0, w1, w2, w3]
  rw [Int.mul_comm c.x0, Int.mul_comm c.x1, Int.mul_comm c.x2, Int.mul_comm c.x3, w64_id (x := w.x0 * c.x0) (by omega), w64_id (x := w.x1 * c.x1) (by omega), w64_id (x := w.x2 * c.x2) (by omega), w64_id (x := w.x3 * c.x3) (by omega)]
  try rw [w64_id (x := w.x0 * c.x0) (by omega)]
  rw [w64_id (x := w.x0 * c.x0 + w.x1 * c.x1) (by omega), w64_id (x := w.x0 * c.x0 + w.x1 * c.x1 + w.x2 * c.x2) (by omega), w64_id (x := w.x0 * c.x0 + w.x1 * c.x1 + w.x2 * c.x2 + w.x3 * c.x3) (by omega), Int.tmod_eq_emod_of_nonneg (by omega)]
def cv (w : Card) (v : Nat) (h : List Card) : Nat := h.countP fun c => decide (val c w = (v : Int))
def spV (h : List Card) (w : Card) : V3 Int := ⟨(cv w 0 h : Int), (cv w 1 h : Int), (cv w 2 h : Int)⟩
theorem cv_len (w : Card) (v : Nat) (h : List Card) : cv w v h ≤ h.length := List.countP_le_length
theorem cv_snoc (w : Card) (v : Nat) (h : List Card) (c : Card) : cv w v (h ++ [c]) = cv w v h + if val c w = (v : Int) then 1 else 0 := by
  unfold cv
  rw [List.countP_append, List.countP_singleton]
  simp
theorem cv_sum (w : Card) : ∀ h : List Card, cv w 0 h + cv w 1 h + cv w 2 h = h.length
  | [] => rfl
  | c :: h => by
    have ih := cv_sum w h
    unfold cv at ih ⊢
    have e0 : ((0 : Nat) : Int) = 0 := rfl
    have e1 : ((1 : Nat) : Int) = 1 := rfl
    have e2 : ((2 : Nat) : Int) = 2 := rfl
    simp only [List.countP_cons, List.length_cons, e0, e1, e2] at ih ⊢
    rcases val_bd c w with hv | hv | hv <;> rw [hv] <;> simp <;> omega
theorem sp_step {h : List Card} {c w : Card} (hl : h.length ≤ 100000) : V3.set (spV h w) (val c w).toNat (w64 (V3.get (spV h w) (val c w).toNat + 1)) = spV (h ++ [c]) w := by
  have e0 := cv_snoc w 0 h c
  have e1 := cv_snoc w 1 h c
  have e2 := cv_snoc w 2 h c
  have l0 := cv_len w 0 h
  have l1 := cv_len w 1 h
  have l2 := cv_len w 2 h
  unfold spV
  rcases val_bd c w with hx | hx | hx <;> rw [hx] at e0 e1 e2 ⊢ <;> simp only [Int.toNat_zero, Int.toNat_one, show (2 : Int).toNat = 2 from rfl, V3.get, V3.set] <;> rw [w64_succ (by omega), e0, e1, e2] <;> simp
theorem i_split_eq {n : Nat} (hn : BIG ≤ n) {h : List Card} (hc : AllC h) (hl : h.length ≤ 1000) {w : Card} (hw : isC w = true) : i_split n h w = some (spV h w) := by
  unfold i_split
  rw [lt_eq]
  have := fx_cnt (B := i_split_L1 n) h.length (fun i => (h, (h.length : Int), (i : Int), w, (⟨0, 0, 0⟩ : V3 Int), spV (h.take i) w)) (fun _ => True) (fun _ => some (spV h w)) (fun self i hi _ ih => by
    simp only [i_split_L1]
    by_cases h1 : i < h.length
    · have ih := ih h1 trivial
      have g := val_bd h[i] w
      have gin : inb (val h[i] w) 3 = true := by rcases g with g | g | g <;> rw [g] <;> rfl
      have stp := sp_step (h := h.take i) (c := h[i]) (w := w) (by rw [List.length_take]; omega)
      rw [← take_snoc h1] at stp
      rw [br_pos (decide_eq_true (show (i : Int) < (h.length : Int) by omega)), ckb_pos (inb_ok h1), toNat_cast, gl_eq h1, i_value_eq hn (hc _ (List.getElem_mem h1)) hw, ob_some, ckb_pos gin, lt_eq, ckb_pos gin, lt_eq, lt_eq, stp, w64_succ (by omega)]
      exact ih
    · have : i = h.length := by omega
      subst this
      rw [br_neg (decide_eq_false (by omega)), List.take_length]) n 0 (Nat.zero_le _) trivial (big_gt hn (by omega))
  exact this
theorem s_l6Split_eq {n : Nat} (hn : BIG ≤ n) {h : List Card} (hc : AllC h) (hl : h.length ≤ 1000) {w : Card} (hw : isC w = true) : s_l6Split n h w = some (spV h w) := by
  unfold s_l6Split
  rw [lt_eq]
  have := fx_cnt (B := s_l6Split_L1 n) h.length (fun i => (h, (i : Int), w, (⟨0, 0, 0⟩ : V3 Int), spV (h.take i) w)) (fun _ => True) (fun _ => some (spV h w)) (fun self i hi _ ih => by
    simp only [s_l6Split_L1]
    by_cases h1 : i < h.length
    · have ih := ih h1 trivial
      have g := val_bd h[i] w
      have gin : inb (val h[i] w) 3 = true := by rcases g with g | g | g <;> rw [g] <;> rfl
      have stp := sp_step (h := h.take i) (c := h[i]) (w := w) (by rw [List.length_take]; omega)
      rw [← take_snoc h1] at stp
      rw [br_pos (decide_eq_true (show (i : Int) < (h.length : Int) by omega)), ckb_pos (inb_ok h1), toNat_cast, gl_eq h1, s_l6Value_eq (hc _ (List.getElem_mem h1)) hw, ob_some, ckb_pos gin, lt_eq, ckb_pos gin, lt_eq, lt_eq, stp, w64_succ (by omega)]
      exact ih
    · have : i = h.length := by omega
      subst this
      rw [br_neg (decide_eq_false (by omega)), List.take_length]) n 0 (Nat.zero_le _) trivial (big_gt hn (by omega))
  exact this
def SB (h : List Card) (w : Card) : V3 Int × Bool := if hand h && wB w then (spV h w, true) else (⟨0, 0, 0⟩, false)
theorem i_SplitBy_eq {n : Nat} (hn : BIG ≤ n) {h : List Card} (hl : h.length ≤ 1048576) (w : Card) : i_SplitBy n h w = some (SB h w) := by
  unfold i_SplitBy SB
  rw [i_IsHand_eq hn (by omega), ob_some, i_IsWeight_eq hn, ob_some]
  cases hh : hand h with
  | false => rfl
  | true =>
    cases hw : wB w with
    | false => rfl
    | true =>
      have h27 := hand_len hh
      simp only [Bool.not_true, br_false, ob_some, Bool.and_self, if_true]
      rw [i_split_eq hn (hand_all hh) (by omega) (wB_isC hw)]; rfl
theorem s_SplitBy_eq {n : Nat} (hn : BIG ≤ n) {h : List Card} (hl : h.length ≤ 1048576) (w : Card) : s_SplitBy n h w = some (SB h w) := by
  unfold s_SplitBy SB
  rw [s_l2Hand_eq hn (by omega), ob_some, s_l6Weight_eq hn, ob_some]
  cases hh : hand h with
  | false => rfl
  | true =>
    cases hw : wB w with
    | false => rfl
    | true =>
      have h27 := hand_len hh
      simp only [Bool.not_true, br_false, ob_some, Bool.and_self, if_true]
      rw [s_l6Split_eq hn (hand_all hh) (by omega) (wB_isC hw)]; rfl
def VB (c w : Card) : Int × Bool := if isC c && wB w then (val c w, true) else (0, false)
theorem i_ValueBy_eq {n : Nat} (hn : BIG ≤ n) (c w : Card) : i_ValueBy n c w = some (VB c w) := by
  unfold i_ValueBy VB
  rw [i_IsCard_eq hn, ob_some, i_IsWeight_eq hn, ob_some]
  cases hc : isC c with
  | false => rfl
  | true =>
    cases hw : wB w with
    | false => rfl
    | true =>
      simp only [Bool.not_true, br_false, ob_some, Bool.and_self, if_true]
      rw [i_value_eq hn hc (wB_isC hw)]; rfl
theorem s_ValueBy_eq {n : Nat} (hn : BIG ≤ n) (c w : Card) : s_ValueBy n c w = some (VB c w) := by
  unfold s_ValueBy VB
  rw [s_l2Card_eq hn, ob_some, s_l6Weight_eq hn, ob_some]
  cases hc : isC c with
  | false => rfl
  | true =>
    cases hw : wB w with
    | false => rfl
    | true =>
      simp only [Bool.not_true, br_false, ob_some, Bool.and_self, if_true]
      rw [s_l6Value_eq hc (wB_isC hw)]; rfl
def Wk (k : Nat) : List Card := ((List.range k).map fun i : Nat => cardAt (i : Int)).filter wB
theorem Wk_succ (k : Nat) : Wk (k + 1) = Wk k ++ if wB (cardAt (k : Int)) = true then [cardAt (k : Int)] else [] := by
  unfold Wk
  rw [List.range_succ, List.map_append, List.filter_append]
  congr 1
  simp only [List.map_cons, List.map_nil, List.filter_cons, List.filter_nil]
theorem Wk_len (k : Nat) : (Wk k).length ≤ k := by
  unfold Wk
  refine Nat.le_trans (List.length_filter_le _ _) ?_
  rw [List.length_map, List.length_range]; exact Nat.le_refl _
theorem Wk_wB {k : Nat} {w : Card} (h : w ∈ Wk k) : wB w = true := (List.mem_filter.1 h).2
theorem i_weights_eq {n : Nat} (hn : BIG ≤ n) : i_weights n = some (Wk 81) := by
  unfold i_weights
  have := fx_cnt (B := i_weights_L1 n) 81 (fun k => ((k : Int), Wk k)) (fun _ => True) (fun _ => some (Wk 81)) (fun self k hk _ ih => by
    simp only [i_weights_L1]
    by_cases h1 : k < 81
    · have ih := ih h1 trivial
      rw [Wk_succ] at ih
      have hl := Wk_len k
      rw [br_pos (decide_eq_true (show (k : Int) < 81 by omega)), i_card_eq n (by omega), ob_some, i_IsWeight_eq hn, ob_some, lt_eq, lt_eq, w64_succ (by omega)]
      cases hw : wB (cardAt (k : Int)) with
      | true =>
        rw [hw, if_pos rfl] at ih
        rw [br_true, ckb_pos (apok_ok (by omega) (by omega))]
        exact ih
      | false =>
        rw [hw, if_neg (by decide), List.append_nil] at ih
        exact ih
    · have : k = 81 := by omega
      subst this
      rw [br_neg (decide_eq_false (by omega))]) n 0 (Nat.zero_le _) trivial (big_gt hn (by omega))
  exact this
def up3 (w : Card) (v : Int) (x : Int) (a : Int × Card × Int) : Int × Card × Int := if a.1 < x then (x, w, v) else a
theorem up_eq {β : Type} (w : Card) (v x : Int) (a : Int × Card × Int) (f : Int → Card → Int → Opt β) : br (decide (a.1 < x)) (f x w v) (f a.1 a.2.1 a.2.2) = f (up3 w v x a).1 (up3 w v x a).2.1 (up3 w v x a).2.2 := by
  unfold up3
  rw [br_dec]
  split <;> rfl
def mst (h : List Card) (a : Int × Card × Int) (w : Card) : Int × Card × Int := up3 w 2 (cv w 2 h : Int) (up3 w 1 (cv w 1 h : Int) (up3 w 0 (cv w 0 h : Int) a))
theorem mst_i {n : Nat} (hn : BIG ≤ n) (h : List Card) (a : Int × Card × Int) (lw : Int) {k : Nat} (hk : k ≤ 1000000) (zz w : Card) (Ws : List Card) (go : List Card × Int × Int × Int × Int × Card × Card × List Card → Opt (Int × Card × Int × Bool)) :
    fx (i_MostInSpace_L1 n go) n (h, a.1, a.2.2, lw, (k : Int), spV h w, 0, zz, a.2.1, w, Ws) = go (h, (mst h a w).1, (mst h a w).2.2, lw, ((k + 1 : Nat) : Int), zz, (mst h a w).2.1, Ws) := by
  obtain ⟨q, rfl⟩ : ∃ q, n = q + 4 := ⟨n - 4, by unfold BIG at hn; omega⟩
  obtain ⟨w0, w1, w2, w3⟩ := w64s
  rw [fx_succ]
  simp only [i_MostInSpace_L1, lt_eq]
  rw [br_pos (show decide ((0 : Int) < 3) = true by decide), ckb_pos (show inb (0 : Int) 3 = true by decide), w0]
  refine (up_eq w 0 (cv w 0 h : Int) a fun m wt v => fx (i_MostInSpace_L1 (q + 4) go) (q + 3) (h, m, v, lw, (k : Int), spV h w, 1, zz, wt, w, Ws)).trans ?_
  generalize ha1 : up3 w 0 (cv w 0 h : Int) a = a1
  rw [fx_succ]
  simp only [i_MostInSpace_L1, lt_eq]
  rw [br_pos (show decide ((1 : Int) < 3) = true by decide), ckb_pos (show inb (1 : Int) 3 = true by decide), w1]
  refine (up_eq w 1 (cv w 1 h : Int) a1 fun m wt v => fx (i_MostInSpace_L1 (q + 4) go) (q + 2) (h, m, v, lw, (k : Int), spV h w, 2, zz, wt, w, Ws)).trans ?_
  generalize ha2 : up3 w 1 (cv w 1 h : Int) a1 = a2
  rw [fx_succ]
  simp only [i_MostInSpace_L1, lt_eq]
  rw [br_pos (show decide ((2 : Int) < 3) = true by decide), ckb_pos (show inb (2 : Int) 3 = true by decide), w2]
  refine (up_eq w 2 (cv w 2 h : Int) a2 fun m wt v => fx (i_MostInSpace_L1 (q + 4) go) (q + 1) (h, m, v, lw, (k : Int), spV h w, 3, zz, wt, w, Ws)).trans ?_
  generalize ha3 : up3 w 2 (cv w 2 h : Int) a2 = a3
  rw [fx_succ]
  simp only [i_MostInSpace_L1, lt_eq]
  rw [br_neg (show decide ((3 : Int) < 3) = false by decide), w64_succ (by omega)]
  unfold mst
  rw [ha1, ha2, ha3]
theorem mst_s {n : Nat} (hn : BIG ≤ n) (h : List Card) (a : Int × Card × Int) {k : Nat} (hk : k ≤ 1000000) (zz w : Card) (go : List Card × Int × Int × Int × Card × Card → Opt (Int × Card × Int × Bool)) :
    fx (s_MostInSpace_L1 n go) n (h, a.1, a.2.2, (k : Int), 0, zz, a.2.1, w, spV h w) = go (h, (mst h a w).1, (mst h a w).2.2, ((k + 1 : Nat) : Int), zz, (mst h a w).2.1) := by
  obtain ⟨q, rfl⟩ : ∃ q, n = q + 4 := ⟨n - 4, by unfold BIG at hn; omega⟩
  obtain ⟨w0, w1, w2, w3⟩ := w64s
  rw [fx_succ]
  simp only [s_MostInSpace_L1, lt_eq]
  rw [br_pos (show decide ((0 : Int) < 3) = true by decide), ckb_pos (show inb (0 : Int) 3 = true by decide), ckb_pos (show inb (0 : Int) 3 = true by decide), w0]
  refine (up_eq w 0 (cv w 0 h : Int) a fun m wt v => fx (s_MostInSpace_L1 (q + 4) go) (q + 3) (h, m, v, (k : Int), 1, zz, wt, w, spV h w)).trans ?_
  generalize ha1 : up3 w 0 (cv w 0 h : Int) a = a1
  rw [fx_succ]
  simp only [s_MostInSpace_L1, lt_eq]
  rw [br_pos (show decide ((1 : Int) < 3) = true by decide), ckb_pos (show inb (1 : Int) 3 = true by decide), ckb_pos (show inb (1 : Int) 3 = true by decide), w1]
  refine (up_eq w 1 (cv w 1 h : Int) a1 fun m wt v => fx (s_MostInSpace_L1 (q + 4) go) (q + 2) (h, m, v, (k : Int), 2, zz, wt, w, spV h w)).trans ?_
  generalize ha2 : up3 w 1 (cv w 1 h : Int) a1 = a2
  rw [fx_succ]
  simp only [s_MostInSpace_L1, lt_eq]
  rw [br_pos (show decide ((2 : Int) < 3) = true by decide), ckb_pos (show inb (2 : Int) 3 = true by decide), ckb_pos (show inb (2 : Int) 3 = true by decide), w2]
  refine (up_eq w 2 (cv w 2 h : Int) a2 fun m wt v => fx (s_MostInSpace_L1 (q + 4) go) (q + 1) (h, m, v, (k : Int), 3, zz, wt, w, spV h w)).trans ?_
  generalize ha3 : up3 w 2 (cv w 2 h : Int) a2 = a3
  rw [fx_succ]
  simp only [s_MostInSpace_L1, lt_eq]
  rw [br_neg (show decide ((3 : Int) < 3) = false by decide), w64_succ (by omega)]
  unfold mst
  rw [ha1, ha2, ha3]
def mstI : Int × Card × Int := (-1, ⟨0, 0, 0, 0⟩, 0)
def mstR (h : List Card) (k : Nat) : Int × Card × Int := (Wk k).foldl (mst h) mstI
theorem mstR_succ (h : List Card) (k : Nat) : mstR h (k + 1) = if wB (cardAt (k : Int)) = true then mst h (mstR h k) (cardAt (k : Int)) else mstR h k := by
  unfold mstR
  rw [Wk_succ, List.foldl_append]
  split <;> rfl
def MS (h : List Card) : Int × Card × Int × Bool := if hand h then ((mstR h 81).1, (mstR h 81).2.1, (mstR h 81).2.2, true) else (0, ⟨0, 0, 0, 0⟩, 0, false)
theorem i_MostInSpace_eq {n : Nat} (hn : BIG ≤ n) {h : List Card} (hl : h.length ≤ 1048576) : i_MostInSpace n h = some (MS h) := by
  unfold i_MostInSpace MS
  rw [i_IsHand_eq hn (by omega), ob_some]
  cases hh : hand h with
  | false => rfl
  | true =>
    have h27 := hand_len hh
    have hw81 := Wk_len 81
    rw [Bool.not_true, br_false, lt_eq, i_weights_eq hn, ob_some]
    have := fx_foldl (B := i_MostInSpace_L2 n) (Wk 81) (fun i a => (h, a.1, a.2.2, ((Wk 81).length : Int), (i : Int), (⟨0, 0, 0, 0⟩ : Card), a.2.1, Wk 81)) (mst h) (fun a => some (a.1, a.2.1, a.2.2, true)) (fun _ _ => True) (fun _ _ _ _ => trivial) (fun self i a hi _ => by
      simp only [i_MostInSpace_L2]
      rw [br_pos (decide_eq_true (show (i : Int) < ((Wk 81).length : Int) by omega)), ckb_pos (inb_ok hi), toNat_cast, gl_eq hi, i_split_eq hn (hand_all hh) (by omega) (wB_isC (Wk_wB (List.getElem_mem hi))), ob_some, mst_i hn h a _ (by omega)]) (fun self a _ => by
      simp only [i_MostInSpace_L2]
      rw [br_neg (decide_eq_false (by omega))]) n (big_gt hn (by omega)) mstI trivial
    have e : (Wk 81).foldl (mst h) mstI = mstR h 81 := rfl
    rw [e] at this
    rw [if_pos rfl]
    generalize mstR h 81 = R at *
    generalize Wk 81 = L at *
    exact this
theorem s_MostInSpace_eq {n : Nat} (hn : BIG ≤ n) {h : List Card} (hl : h.length ≤ 1048576) : s_MostInSpace n h = some (MS h) := by
  unfold s_MostInSpace MS
  rw [lt_eq, s_l2Hand_eq hn (by omega), ob_some]
  cases hh : hand h with
  | false => rfl
  | true =>
    have h27 := hand_len hh
    rw [Bool.not_true, br_false]
    have := fx_cnt (B := s_MostInSpace_L2 n) 81 (fun k => (h, (mstR h k).1, (mstR h k).2.2, (k : Int), (⟨0, 0, 0, 0⟩ : Card), (mstR h k).2.1)) (fun _ => True) (fun _ => some ((mstR h 81).1, (mstR h 81).2.1, (mstR h 81).2.2, true)) (fun self k hk _ ih => by
      simp only [s_MostInSpace_L2]
      by_cases h1 : k < 81
      · have ih := ih h1 trivial
        rw [mstR_succ] at ih
        rw [br_pos (decide_eq_true (show (k : Int) < 81 by omega)), s_l2At_eq n (by omega), ob_some, s_l6Weight_eq hn, ob_some]
        cases hw : wB (cardAt (k : Int)) with
        | false =>
          rw [hw, if_neg (by decide)] at ih
          rw [Bool.not_false, br_true, lt_eq, w64_succ (by omega)]
          exact ih
        | true =>
          rw [hw, if_pos rfl] at ih
          rw [Bool.not_true, br_false, s_l6Split_eq hn (hand_all hh) (by omega) (wB_isC hw), ob_some, mst_s hn h (mstR h k) (by omega)]
          exact ih
      · have : k = 81 := by omega
        subst this
        rw [br_neg (decide_eq_false (by omega))]) n 0 (Nat.zero_le _) trivial (big_gt hn (by omega))
    exact this
def conB (h : List Card) (w : Card) : Bool := decide (cv w 0 h = h.length ∨ cv w 1 h = h.length ∨ cv w 2 h = h.length)
theorem mxI_eq (a b : Nat) : mxI (a : Int) (b : Int) = ((max a b : Nat) : Int) := by
  unfold mxI; split <;> omega
theorem con_i (h : List Card) (w : Card) : decide (mxI (mxI (cv w 0 h : Int) (cv w 1 h : Int)) (cv w 2 h : Int) = (h.length : Int)) = conB h w := by
  rw [mxI_eq, mxI_eq]
  unfold conB
  have l0 := cv_len w 0 h
  have l1 := cv_len w 1 h
  have l2 := cv_len w 2 h
  congr 1; apply propext; omega
theorem con_s {n : Nat} (h : List Card) (w : Card) {β : Type} (x y : Opt β) : (ob (s_l1Most n (cv w 1 h : Int) (cv w 2 h : Int)) fun r9 => ob (s_l1Most n (cv w 0 h : Int) r9) fun r10 => br (decide (r10 = (h.length : Int))) x y) = br (conB h w) x y := by
  have l0 := cv_len w 0 h
  have l1 := cv_len w 1 h
  have l2 := cv_len w 2 h
  have e : ∀ a b : Nat, s_l1Most n (a : Int) (b : Int) = some ((max a b : Nat) : Int) := fun a b => by
    unfold s_l1Most
    rw [br_dec]
    split <;> congr 1 <;> omega
  rw [e, ob_some, e, ob_some]
  congr 1
  unfold conB
  congr 1; apply propext; omega
def SW (h : List Card) : Bool × List Card := if hand h then (true, (Wk 81).filter (conB h)) else (false, [])
theorem fold_filter {α : Type} (p : α → Bool) : ∀ (l a : List α), l.foldl (fun a w => if p w = true then a ++ [w] else a) a = a ++ l.filter p
  | [], a => by simp
  | w :: l, a => by
    rw [List.foldl_cons, fold_filter p l, List.filter_cons]
    split <;> simp
theorem i_SpacesWith_eq {n : Nat} (hn : BIG ≤ n) {h : List Card} (hl : h.length ≤ 1048576) : i_SpacesWith n h = some (SW h) := by
  unfold i_SpacesWith SW
  rw [i_IsHand_eq hn (by omega), ob_some]
  cases hh : hand h with
  | false => rfl
  | true =>
    have h27 := hand_len hh
    have hw81 := Wk_len 81
    rw [Bool.not_true, br_false, i_weights_eq hn, ob_some]
    have := fx_foldl (B := i_SpacesWith_L1 n) (Wk 81) (fun i a => (h, ((Wk 81).length : Int), (i : Int), a, Wk 81)) (fun a w => if conB h w = true then a ++ [w] else a) (fun a => some (true, a)) (fun i a => a.length ≤ i) (fun i a hi ha => by
      split
      · rw [List.length_append, List.length_singleton]; omega
      · omega) (fun self i a hi ha => by
      simp only [i_SpacesWith_L1, lt_eq]
      rw [br_pos (decide_eq_true (show (i : Int) < ((Wk 81).length : Int) by omega)), ckb_pos (inb_ok hi), toNat_cast, gl_eq hi, i_split_eq hn (hand_all hh) (by omega) (wB_isC (Wk_wB (List.getElem_mem hi))), ob_some, w64_succ (by omega), ckb_pos (apok_ok (by omega) (by omega))]
      unfold spV
      simp only []
      rw [con_i]
      cases conB h (Wk 81)[i] <;> rfl) (fun self a _ => by
      simp only [i_SpacesWith_L1]
      rw [br_neg (decide_eq_false (by omega))]) n (big_gt hn (by omega)) [] (Nat.le_refl _)
    rw [fold_filter, List.nil_append] at this
    exact this
theorem s_SpacesWith_eq {n : Nat} (hn : BIG ≤ n) {h : List Card} (hl : h.length ≤ 1048576) : s_SpacesWith n h = some (SW h) := by
  unfold s_SpacesWith SW
  rw [s_l2Hand_eq hn (by omega), ob_some]
  cases hh : hand h with
  | false => rfl
  | true =>
    have h27 := hand_len hh
    rw [Bool.not_true, br_false]
    have := fx_cnt (B := s_SpacesWith_L1 n) 81 (fun k => (h, (k : Int), (Wk k).filter (conB h))) (fun _ => True) (fun _ => some (true, (Wk 81).filter (conB h))) (fun self k hk _ ih => by
      simp only [s_SpacesWith_L1]
      by_cases h1 : k < 81
      · have ih := ih h1 trivial
        rw [Wk_succ, List.filter_append] at ih
        have hl1 := Wk_len k
        have hl2 := List.length_filter_le (conB h) (Wk k)
        rw [br_pos (decide_eq_true (show (k : Int) < 81 by omega)), s_l2At_eq n (by omega), ob_some, s_l6Weight_eq hn, ob_some]
        cases hw : wB (cardAt (k : Int)) with
        | false =>
          rw [hw, if_neg (by decide), List.filter_nil, List.append_nil] at ih
          rw [Bool.not_false, br_true, lt_eq, w64_succ (by omega)]
          exact ih
        | true =>
          rw [hw, if_pos rfl, List.filter_cons, List.filter_nil] at ih
          rw [Bool.not_true, br_false, s_l6Split_eq hn (hand_all hh) (by omega) (wB_isC hw), ob_some]
          unfold spV
          simp only [lt_eq]
          rw [con_s, w64_succ (by omega), ckb_pos (apok_ok (by omega) (by omega))]
          cases hc : conB h (cardAt (k : Int)) with
          | true => rw [hc, if_pos rfl] at ih; exact ih
          | false => rw [hc, if_neg (by decide), List.append_nil] at ih; exact ih
      · have : k = 81 := by omega
        subst this
        rw [br_neg (decide_eq_false (by omega))]) n 0 (Nat.zero_le _) trivial (big_gt hn (by omega))
    exact this
end Go.Pl

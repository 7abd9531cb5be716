/- Plain laws: LCc, LCh4, LPk, LC3, LPk2, LSm. -/
import Derived.Test.YtfoielhhflbbfaaG7
import Derived.Test.YtfoielhhflbbfaaG6
import Derived.Test.YtfoielhhflbbfaaPL
import Derived.Test.YtfoielhhflbbfaaG2
set_option linter.unusedVariables false
set_option linter.unusedSimpArgs false
namespace Go.Pl
open Go Go.Tv Go.RowKit
set_option linter.unusedVariables false
set_option linter.unusedSimpArgs false
def CC (h : List Card) (a : Int) : Int × Bool := if poolB h && decide (0 ≤ a ∧ a ≤ 15) then ((cntX h a : Int), true) else (0, false)
theorem i_CountCaps_eq {n : Nat} (hn : BIG ≤ n) {h : List Card} (hl : h.length ≤ 1048576) (a : Int) : i_CountCaps n h a = some (CC h a) := by
  unfold i_CountCaps CC
  rw [i_isPool_eq hn hl, ob_some, i_within_eq]
  cases hp : poolB h with
  | false => rfl
  | true =>
    cases ha : decide (0 ≤ a ∧ a ≤ 15) with
    | false => rfl
    | true =>
      unfold poolB at hp
      rw [Bool.and_eq_true, decide_eq_true_iff] at hp
      have H := HandL.of hp.1
      have h215 : 2 ^ h.length ≤ 32768 := Nat.le_trans (Nat.pow_le_pow_right (by omega) hp.2) (by decide)
      have := cc_R hn H hp.2 a n 0 [] 0 (Nat.zero_le _) (pk_nil 0) (big_gt hn (by omega)) (by rw [Nat.sub_zero]; omega)
      rw [Nat.sub_zero, Nat.zero_add] at this
      have e : i_caps'll_i_CountCaps_1pp n h 0 [] a 0 = some (a, (cntX h a : Int)) := this
      simp only [ob_some, Bool.not_true, br_false]
      rw [e]; rfl
theorem s_CountCaps_eq {n : Nat} (hn : BIG ≤ n) {h : List Card} (hl : h.length ≤ 1048576) (a : Int) : s_CountCaps n h a = some (CC h a) := by
  unfold s_CountCaps CC
  rw [s_l3Pool_eq hn hl, ob_some, s_l1In_eq]
  cases hp : poolB h with
  | false => rfl
  | true =>
    cases ha : decide (0 ≤ a ∧ a ≤ 15) with
    | false => rfl
    | true =>
      unfold poolB at hp
      rw [Bool.and_eq_true, decide_eq_true_iff] at hp
      have ha := of_decide_eq_true ha
      have H := HandL.of hp.1
      obtain ⟨l, rfl⟩ : ∃ l : Nat, a = l := ⟨a.toNat, by omega⟩
      have := s_count3 hn H hp.2 n 0 [] l (Nat.zero_le _) (pk_nil 0) (by omega) (big_gt hn (by omega))
      rw [Nat.sub_zero] at this
      have e2 : (fun L : List Nat => decide (L.length = ([] : List Nat).length + l)) = cntB (l : Int) := funext fun L => by
        unfold cntB
        congr 1; apply propext; simp; omega
      rw [e2] at this
      have e : s_l3Count n h [] 0 (l : Int) = some (cntX h (l : Int) : Int) := this
      simp only [ob_some, Bool.not_true, br_false]
      rw [e]; rfl
theorem pool3_ok {n : Nat} (hn : BIG ≤ n) {m : Nat} {c : Cu} (hc : CuOK m c) (hm : m + 300 < 4611686018427300000) : HandR n (m + 300) (s_Cur_pool3'p n c) := by
  unfold s_Cur_pool3'p
  obtain ⟨c1, h, e1, hl, k1⟩ := hand_ok hn hc (by omega)
  rw [e1, ob_some]
  have J1 : ∀ (b : Bool) (c : Cu) (m' : Nat), CuOK m' c → m' ≤ m + 210 → (b = true → 15 < h.length) → HandR n (m + 300) (s_Cur_pool3'p_J1 n (b, c, h)) := by
    intro b c m' hc hm' hb
    unfold s_Cur_pool3'p_J1
    cases b with
    | false => exact ⟨c, h, rfl, hl, hc.mono (by omega)⟩
    | true =>
      have := hb rfl
      simp only [br_true, lt_eq]
      obtain ⟨i, c2, e2, k2, i0, i1⟩ := pick_ok n hc (by omega) (a := 4) (by omega)
      rw [e2, ob_some]
      simp only []
      rw [w64_id (x := 15 - i) (by omega), ckb_pos (slb_ok (by omega) (by omega) (by omega))]
      have hsl : ∀ x y, (sub h x y).length ≤ h.length := fun x y => by unfold sub; rw [List.length_take, List.length_drop]; omega
      have s1 := hsl 0 (0 + (w64 (15 - i - 0)).toNat)
      rw [s_l2Own_eq (by omega), ob_some]
      exact ⟨_, _, rfl, by omega, k2.mono (by omega)⟩
  simp only []
  rw [br_dec]
  split
  · obtain ⟨x, c2, e2, k2⟩ := one_ok n k1 (by omega) (a := 8) (by omega)
    rw [e2, ob_some]
    exact J1 _ _ _ k2 (by omega) fun _ => by omega
  · exact J1 _ _ _ k1 (by omega) fun h => by cases h
end Go.Pl
namespace Go.Pl
open Go Go.Tv Go.RowKit
set_option linter.unusedVariables false
set_option linter.unusedSimpArgs false
theorem chof_pos : ∀ q : Nat, q < 28 → ∀ k : Nat, k < 16 → k ≤ q → 0 < chof q k := by decide +kernel
theorem cntX_le (h : List Card) (a : Int) : cntX h a ≤ 2 ^ h.length := by
  refine Nat.le_trans List.countP_le_length ?_
  have := X_len h h.length [] 0
  unfold allX
  rw [List.length_cons]; exact this
def CHC (h : List Card) (a : Int) : V2 Int × Bool := if poolB h && decide (0 ≤ a ∧ a ≤ h.length) then (FR (cntX h a) (chof h.length a.toNat), true) else (⟨0, 0⟩, false)
theorem cap_num {h : List Card} (h15 : h.length ≤ 15) (a : Int) : cntX h a ≤ 32768 := Nat.le_trans (cntX_le h a) (Nat.le_trans (Nat.pow_le_pow_right (by omega) h15) (by decide))
theorem i_ChanceCap_eq {n : Nat} (hn : BIG ≤ n) {h : List Card} (hl : h.length ≤ 1048576) (a : Int) : i_ChanceCap n h a = some (CHC h a) := by
  unfold i_ChanceCap CHC
  rw [i_CountCaps_eq hn hl, ob_some]
  unfold CC
  cases hp : poolB h with
  | false => rfl
  | true =>
    have hp' := hp
    unfold poolB at hp'
    rw [Bool.and_eq_true, decide_eq_true_iff] at hp'
    by_cases ha : 0 ≤ a ∧ a ≤ 15
    · rw [decide_eq_true ha]
      by_cases hb : a ≤ h.length
      · rw [decide_eq_true (show 0 ≤ a ∧ a ≤ (h.length : Int) from ⟨ha.1, hb⟩)]
        obtain ⟨k, rfl⟩ : ∃ k : Nat, a = k := ⟨a.toNat, by omega⟩
        obtain ⟨c1, c2, c3⟩ := choose_eq hn (a := h.length) (k := k) (by omega) (.inr ⟨by omega, by omega⟩)
        have hpos := chof_pos h.length (by omega) k (by omega) (by omega)
        have hc := cap_num hp'.2 (k : Int)
        simp only [Bool.and_self, if_true, Bool.not_true, br_false, ob_some]
        rw [decide_eq_false (show ¬ ((h.length : Int) < (k : Int)) by omega), br_false, c2, ob_some, i_fraction_eq hn hpos (by omega) (by omega)]; rfl
      · rw [decide_eq_false (show ¬ (0 ≤ a ∧ a ≤ (h.length : Int)) by omega)]
        simp only [Bool.and_self, if_true, Bool.not_true, br_false, ob_some]
        rw [decide_eq_true (show (h.length : Int) < a by omega)]; rfl
    · rw [decide_eq_false ha, decide_eq_false (show ¬ (0 ≤ a ∧ a ≤ (h.length : Int)) by omega)]; rfl
theorem s_ChanceCap_eq {n : Nat} (hn : BIG ≤ n) {h : List Card} (hl : h.length ≤ 1048576) (a : Int) : s_ChanceCap n h a = some (CHC h a) := by
  unfold s_ChanceCap CHC
  rw [s_l3Pool_eq hn hl, ob_some, s_l1In_eq]
  cases hp : poolB h with
  | false => rfl
  | true =>
    have hp' := hp
    unfold poolB at hp'
    rw [Bool.and_eq_true, decide_eq_true_iff] at hp'
    by_cases ha : 0 ≤ a ∧ a ≤ (h.length : Int)
    · rw [decide_eq_true ha]
      obtain ⟨k, rfl⟩ : ∃ k : Nat, a = k := ⟨a.toNat, by omega⟩
      obtain ⟨c1, c2, c3⟩ := choose_eq hn (a := h.length) (k := k) (by omega) (.inr ⟨by omega, by omega⟩)
      have hpos := chof_pos h.length (by omega) k (by omega) (by omega)
      have hc := cap_num hp'.2 (k : Int)
      have hs := s_CountCaps_eq hn hl (k : Int)
      unfold s_CountCaps at hs
      rw [s_l3Pool_eq hn hl, ob_some, s_l1In_eq, hp, decide_eq_true (show (0 : Int) ≤ k ∧ (k : Int) ≤ 15 by omega)] at hs
      have hs2 : ob (s_l3Count n h [] 0 (k : Int)) (fun r5 => some (r5, true)) = some ((cntX h k : Int), true) := by
        unfold CC at hs
        rw [hp, decide_eq_true (show (0 : Int) ≤ k ∧ (k : Int) ≤ 15 by omega)] at hs
        exact hs
      have hs3 : s_l3Count n h [] 0 (k : Int) = some (cntX h k : Int) := by
        cases hq : s_l3Count n h [] 0 (k : Int) with
        | none => rw [hq] at hs2; cases hs2
        | some v =>
          rw [hq, ob_some] at hs2
          have := Option.some.inj hs2
          rw [Prod.mk.injEq] at this
          rw [this.1]
      simp only [Bool.and_self, if_true, Bool.not_true, br_false, ob_some]
      rw [hs3, ob_some, c1, ob_some, s_l9Cut_eq hn hpos (by omega) (by omega)]; rfl
    · rw [decide_eq_false ha]; rfl
def colN (h : List Card) (k : Nat) (v : Nat) : Nat := h.countP fun c => decide (V4.get c k = (v : Int))
def colV (h : List Card) (k : Nat) : V3 Int := ⟨(colN h k 0 : Int), (colN h k 1 : Int), (colN h k 2 : Int)⟩
theorem get4_in {c : Card} (hc : isC c = true) {k : Nat} (hk : k < 4) : V4.get c k = 0 ∨ V4.get c k = 1 ∨ V4.get c k = 2 := by
  have := isC_iff.1 hc
  rcases (show k = 0 ∨ k = 1 ∨ k = 2 ∨ k = 3 by omega) with rfl | rfl | rfl | rfl <;> simp only [V4.get] <;> omega
theorem colN_snoc (h : List Card) (c : Card) (k v : Nat) : colN (h ++ [c]) k v = colN h k v + if V4.get c k = (v : Int) then 1 else 0 := by
  unfold colN
  rw [List.countP_append, List.countP_singleton]
  simp
theorem colN_len (h : List Card) (k v : Nat) : colN h k v ≤ h.length := List.countP_le_length
theorem col_step {h : List Card} {c : Card} (hc : isC c = true) {k : Nat} (hk : k < 4) (hl : h.length ≤ 100000) :
    V3.set (colV h k) (V4.get c k).toNat (w64 (V3.get (colV h k) (V4.get c k).toNat + 1)) = colV (h ++ [c]) k := by
  have e0 := colN_snoc h c k 0
  have e1 := colN_snoc h c k 1
  have e2 := colN_snoc h c k 2
  have l0 := colN_len h k 0
  have l1 := colN_len h k 1
  have l2 := colN_len h k 2
  unfold colV
  rcases get4_in hc hk with hx | hx | hx <;> rw [hx] at e0 e1 e2 ⊢ <;> simp only [Int.toNat_zero, Int.toNat_one, show (2 : Int).toNat = 2 from rfl, V3.get, V3.set] <;> rw [w64_succ (by omega), e0, e1, e2] <;> simp
theorem i_col {n : Nat} (hn : BIG ≤ n) {h : List Card} (H : HandL h) {k : Nat} (hk : k < 4) (m : Int) : fx (i_ChanceTrait_L2 n) n (h, (k : Int), m, 0, h, (h.length : Int), 0, (⟨0, 0⟩ : V2 Int), ⟨0, 0, 0⟩) = fx (i_ChanceTrait_L1 n) n (h, m, 0, colV h k, 0, ⟨0, 0⟩) := by
  have hl := H.len
  have := fx_cnt (B := i_ChanceTrait_L2 n) h.length (fun i => (h, (k : Int), m, 0, h, (h.length : Int), (i : Int), (⟨0, 0⟩ : V2 Int), colV (h.take i) k)) (fun _ => True) (fun _ => fx (i_ChanceTrait_L1 n) n (h, m, 0, colV h k, 0, ⟨0, 0⟩)) (fun self i hi _ ih => by
    simp only [i_ChanceTrait_L2]
    by_cases h1 : i < h.length
    · have ih := ih h1 trivial
      have hc := H.c _ (List.getElem_mem h1)
      have g := get4_in hc hk
      have gin : inb (V4.get h[i] k) 3 = true := by rcases g with g | g | g <;> rw [g] <;> rfl
      have stp := col_step (h := h.take i) hc hk (by rw [List.length_take]; omega)
      rw [← take_snoc h1] at stp
      rw [br_pos (decide_eq_true (show (i : Int) < (h.length : Int) by omega)), ckb_pos (inb_ok h1), toNat_cast, ckb_pos (inb_ok hk), toNat_cast, gl_eq h1, ckb_pos gin, lt_eq, ckb_pos gin, lt_eq, lt_eq, stp, w64_succ (by omega)]
      exact ih
    · have : i = h.length := by omega
      subst this
      rw [br_neg (decide_eq_false (by omega)), List.take_length]) n 0 (Nat.zero_le _) trivial (big_gt hn (by omega))
  exact this
theorem s_col {n : Nat} (hn : BIG ≤ n) {h : List Card} (H : HandL h) {k : Nat} (hk : k < 4) : s_l5Column n h (k : Int) = some (colV h k) := by
  unfold s_l5Column
  have hl := H.len
  have := fx_cnt (B := s_l5Column_L1 n) h.length (fun i => (h, (k : Int), (i : Int), (⟨0, 0, 0⟩ : V3 Int), colV (h.take i) k)) (fun _ => True) (fun _ => some (colV h k)) (fun self i hi _ ih => by
    simp only [s_l5Column_L1]
    by_cases h1 : i < h.length
    · have ih := ih h1 trivial
      have hc := H.c _ (List.getElem_mem h1)
      have g := get4_in hc hk
      have gin : inb (V4.get h[i] k) 3 = true := by rcases g with g | g | g <;> rw [g] <;> rfl
      have stp := col_step (h := h.take i) hc hk (by rw [List.length_take]; omega)
      rw [← take_snoc h1] at stp
      rw [br_pos (decide_eq_true (show (i : Int) < (h.length : Int) by omega)), ckb_pos (inb_ok h1), toNat_cast, ckb_pos (inb_ok hk), toNat_cast, gl_eq h1, ckb_pos gin, lt_eq, ckb_pos gin, lt_eq, lt_eq, stp, w64_succ (by omega)]
      exact ih
    · have : i = h.length := by omega
      subst this
      rw [br_neg (decide_eq_false (by omega)), List.take_length]) n 0 (Nat.zero_le _) trivial (big_gt hn (by omega))
  exact this
def chS (h : List Card) (k m : Nat) : Nat := chof (colN h k 0) m + chof (colN h k 1) m + chof (colN h k 2) m
def CHT (h : List Card) (t m : Int) : V2 Int × Bool := if hand h && decide (0 ≤ t ∧ t ≤ 3) && decide (1 ≤ m ∧ m ≤ 3) && decide (m ≤ h.length) then (FR (chS h t.toNat m.toNat) (chof h.length m.toNat), true) else (⟨0, 0⟩, false)
theorem chof_zero : ∀ q : Nat, q < 4 → ∀ k : Nat, k < 4 → q < k → chof q k = 0 := by decide
theorem tr_cond (a b c d : Bool) : (ob (br (!a) (some true) (some (!b))) fun x6 => ob (br x6 (some true) (some (!c))) fun x8 => br x8 (some true) (some (!d))) = some (!(a && b && c && d)) := by
  cases a <;> cases b <;> cases c <;> cases d <;> rfl
theorem i_ChanceTrait_eq {n : Nat} (hn : BIG ≤ n) {h : List Card} (hl : h.length ≤ 1048576) (t m : Int) : i_ChanceTrait n h t m = some (CHT h t m) := by
  unfold i_ChanceTrait CHT
  rw [i_IsHand_eq hn (by omega), ob_some, i_within_eq, i_within_eq, ob_some, ob_some]
  have hd : decide ((h.length : Int) < m) = !decide (m ≤ (h.length : Int)) := by rw [← decide_not]; congr 1; apply propext; omega
  rw [hd]
  cases hx : (hand h && decide (0 ≤ t ∧ t ≤ 3) && decide (1 ≤ m ∧ m ≤ 3) && decide (m ≤ (h.length : Int))) with
  | false =>
    have := tr_cond (hand h) (decide (0 ≤ t ∧ t ≤ 3)) (decide (1 ≤ m ∧ m ≤ 3)) (decide (m ≤ (h.length : Int)))
    rw [hx] at this
    revert this
    cases hand h <;> cases decide (0 ≤ t ∧ t ≤ 3) <;> cases decide (1 ≤ m ∧ m ≤ 3) <;> cases decide (m ≤ (h.length : Int)) <;> intro this <;> first | rfl | (exfalso; cases this)
  | true =>
    rw [Bool.and_eq_true, Bool.and_eq_true, Bool.and_eq_true, decide_eq_true_iff, decide_eq_true_iff, decide_eq_true_iff] at hx
    obtain ⟨⟨⟨hh, ht⟩, hm⟩, hml⟩ := hx
    rw [hh, decide_eq_true ht, decide_eq_true hm, decide_eq_true hml]
    simp only [Bool.not_true, br_false, ob_some, lt_eq]
    obtain ⟨k, rfl⟩ : ∃ k : Nat, t = k := ⟨t.toNat, by omega⟩
    obtain ⟨j, rfl⟩ : ∃ j : Nat, m = j := ⟨m.toNat, by omega⟩
    have H := HandL.of hh
    have h27 := hand_len hh
    rw [i_col hn H (by omega)]
    have l0 := colN_len h k 0
    have l1 := colN_len h k 1
    have l2 := colN_len h k 2
    obtain ⟨_, a0, b0⟩ := choose_eq hn (a := colN h k 0) (k := j) (by omega) (.inl (by omega))
    obtain ⟨_, a1, b1⟩ := choose_eq hn (a := colN h k 1) (k := j) (by omega) (.inl (by omega))
    obtain ⟨_, a2, b2⟩ := choose_eq hn (a := colN h k 2) (k := j) (by omega) (.inl (by omega))
    obtain ⟨_, a3, b3⟩ := choose_eq hn (a := h.length) (k := j) (by omega) (.inl (by omega))
    have hpos := chof_pos h.length (by omega) j (by omega) (by omega)
    obtain ⟨q, rfl⟩ : ∃ q, n = q + 4 := ⟨n - 4, by unfold BIG at hn; omega⟩
    have hf := i_fraction_eq hn (a := chS h k j) hpos (by unfold chS; omega) (by omega)
    have e0 : (0 : Int) = ((0 : Nat) : Int) := rfl
    have w1 : w64 (0 + (chof (colN h k 0) j : Int)) = (chof (colN h k 0) j : Int) := by rw [w64_id (by omega)]; omega
    have w2 : w64 ((chof (colN h k 0) j : Int) + (chof (colN h k 1) j : Int)) = ((chof (colN h k 0) j + chof (colN h k 1) j : Nat) : Int) := by rw [w64_id (by omega)]; omega
    have w3 : w64 (((chof (colN h k 0) j + chof (colN h k 1) j : Nat) : Int) + (chof (colN h k 2) j : Int)) = (chS h k j : Int) := by unfold chS; rw [w64_id (by omega)]; omega
    have w4 : w64 (0 + 1) = 1 := by decide
    have w5 : w64 (1 + 1) = 2 := by decide
    have w6 : w64 (2 + 1) = 3 := by decide
    rw [fx_succ]; simp only [i_ChanceTrait_L1]
    rw [br_pos (show decide ((0 : Int) < 3) = true by decide), ckb_pos (show inb (0 : Int) 3 = true by decide)]
    simp only [colV, V3.get, show ((0 : Int).toNat) = 0 from rfl]
    rw [a0, ob_some, lt_eq, w1, lt_eq, w4, fx_succ]; simp only [i_ChanceTrait_L1]
    rw [br_pos (show decide ((1 : Int) < 3) = true by decide), ckb_pos (show inb (1 : Int) 3 = true by decide)]
    simp only [colV, V3.get, show ((1 : Int).toNat) = 1 from rfl]
    rw [a1, ob_some, lt_eq, w2, lt_eq, w5, fx_succ]; simp only [i_ChanceTrait_L1]
    rw [br_pos (show decide ((2 : Int) < 3) = true by decide), ckb_pos (show inb (2 : Int) 3 = true by decide)]
    simp only [colV, V3.get, show ((2 : Int).toNat) = 2 from rfl]
    rw [a2, ob_some, lt_eq, w3, lt_eq, w6, fx_succ]; simp only [i_ChanceTrait_L1]
    rw [br_neg (show decide ((3 : Int) < 3) = false by decide), a3, ob_some, hf]; rfl
theorem chs_step {n : Nat} (hn : BIG ≤ n) {a j : Nat} (ha : a ≤ 81) (hj : j ≤ 3) {x : Int} {β : Type} (f : Int → Opt β) (hx : -1 ≤ x ∧ x ≤ 1000000000000000) :
    br (decide ((j : Int) ≤ (a : Int))) (ob (s_l9Choose n (a : Int) (j : Int)) fun r => Tv.lt (w64 (x + r)) fun y => f y) (f x) = f (x + (chof a j : Int)) := by
  obtain ⟨c1, _, c3⟩ := choose_eq hn (a := a) (k := j) ha (.inl (by omega))
  by_cases h : j ≤ a
  · rw [br_pos (decide_eq_true (by omega)), c1, ob_some, lt_eq, w64_id (by omega)]
  · rw [br_neg (decide_eq_false (by omega)), chof_zero a (by omega) j (by omega) (by omega)]; simp
theorem s_ChanceTrait_eq {n : Nat} (hn : BIG ≤ n) {h : List Card} (hl : h.length ≤ 1048576) (t m : Int) : s_ChanceTrait n h t m = some (CHT h t m) := by
  unfold s_ChanceTrait CHT
  rw [s_l2Hand_eq hn (by omega), ob_some, s_l1In_eq, s_l1In_eq, ob_some, ob_some]
  have hd : decide ((h.length : Int) < m) = !decide (m ≤ (h.length : Int)) := by rw [← decide_not]; congr 1; apply propext; omega
  rw [hd]
  cases hx : (hand h && decide (0 ≤ t ∧ t ≤ 3) && decide (1 ≤ m ∧ m ≤ 3) && decide (m ≤ (h.length : Int))) with
  | false =>
    have := tr_cond (hand h) (decide (0 ≤ t ∧ t ≤ 3)) (decide (1 ≤ m ∧ m ≤ 3)) (decide (m ≤ (h.length : Int)))
    rw [hx] at this
    revert this
    cases hand h <;> cases decide (0 ≤ t ∧ t ≤ 3) <;> cases decide (1 ≤ m ∧ m ≤ 3) <;> cases decide (m ≤ (h.length : Int)) <;> intro this <;> first | rfl | (exfalso; cases this)
  | true =>
    rw [Bool.and_eq_true, Bool.and_eq_true, Bool.and_eq_true, decide_eq_true_iff, decide_eq_true_iff, decide_eq_true_iff] at hx
    obtain ⟨⟨⟨hh, ht⟩, hm⟩, hml⟩ := hx
    rw [hh, decide_eq_true ht, decide_eq_true hm, decide_eq_true hml]
    simp only [Bool.not_true, br_false, ob_some, lt_eq]
    obtain ⟨k, rfl⟩ : ∃ k : Nat, t = k := ⟨t.toNat, by omega⟩
    obtain ⟨j, rfl⟩ : ∃ j : Nat, m = j := ⟨m.toNat, by omega⟩
    have H := HandL.of hh
    have h27 := hand_len hh
    rw [s_col hn H (by omega), ob_some]
    have l0 := colN_len h k 0
    have l1 := colN_len h k 1
    have l2 := colN_len h k 2
    obtain ⟨_, a0, b0⟩ := choose_eq hn (a := colN h k 0) (k := j) (by omega) (.inl (by omega))
    obtain ⟨_, a1, b1⟩ := choose_eq hn (a := colN h k 1) (k := j) (by omega) (.inl (by omega))
    obtain ⟨_, a2, b2⟩ := choose_eq hn (a := colN h k 2) (k := j) (by omega) (.inl (by omega))
    obtain ⟨a3, _, b3⟩ := choose_eq hn (a := h.length) (k := j) (by omega) (.inl (by omega))
    have hpos := chof_pos h.length (by omega) j (by omega) (by omega)
    obtain ⟨q, rfl⟩ : ∃ q, n = q + 4 := ⟨n - 4, by unfold BIG at hn; omega⟩
    have hf := s_l9Cut_eq hn (a := chS h k j) hpos (by unfold chS; omega) (by omega)
    have w4 : w64 (0 + 1) = 1 := by decide
    have w5 : w64 (1 + 1) = 2 := by decide
    have w6 : w64 (2 + 1) = 3 := by decide
    rw [fx_succ]; simp only [s_ChanceTrait_L1]
    rw [br_pos (show decide ((0 : Int) < 3) = true by decide), ckb_pos (show inb (0 : Int) 3 = true by decide), ckb_pos (show inb (0 : Int) 3 = true by decide)]
    simp only [colV, V3.get, show ((0 : Int).toNat) = 0 from rfl, w4]
    have st := fun (f : Int → Opt (V2 Int × Bool)) => chs_step hn (a := colN h k 0) (j := j) (by omega) (by omega) (x := 0) f (by omega)
    refine (st fun y => Tv.lt 1 fun z => fx (s_ChanceTrait_L1 (q + 4)) (q + 3) (h, (j : Int), y, z, ⟨0, 0⟩, ⟨(colN h k 0 : Int), (colN h k 1 : Int), (colN h k 2 : Int)⟩)).trans ?_
    rw [lt_eq, fx_succ]; simp only [s_ChanceTrait_L1]
    rw [br_pos (show decide ((1 : Int) < 3) = true by decide), ckb_pos (show inb (1 : Int) 3 = true by decide), ckb_pos (show inb (1 : Int) 3 = true by decide)]
    simp only [colV, V3.get, show ((1 : Int).toNat) = 1 from rfl, w5]
    have st := fun (f : Int → Opt (V2 Int × Bool)) => chs_step hn (a := colN h k 1) (j := j) (by omega) (by omega) (x := 0 + (chof (colN h k 0) j : Int)) f (by omega)
    refine (st fun y => Tv.lt 2 fun z => fx (s_ChanceTrait_L1 (q + 4)) (q + 2) (h, (j : Int), y, z, ⟨0, 0⟩, ⟨(colN h k 0 : Int), (colN h k 1 : Int), (colN h k 2 : Int)⟩)).trans ?_
    rw [lt_eq, fx_succ]; simp only [s_ChanceTrait_L1]
    rw [br_pos (show decide ((2 : Int) < 3) = true by decide), ckb_pos (show inb (2 : Int) 3 = true by decide), ckb_pos (show inb (2 : Int) 3 = true by decide)]
    simp only [colV, V3.get, show ((2 : Int).toNat) = 2 from rfl, w6]
    have st := fun (f : Int → Opt (V2 Int × Bool)) => chs_step hn (a := colN h k 2) (j := j) (by omega) (by omega) (x := 0 + (chof (colN h k 0) j : Int) + (chof (colN h k 1) j : Int)) f (by omega)
    refine (st fun y => Tv.lt 3 fun z => fx (s_ChanceTrait_L1 (q + 4)) (q + 1) (h, (j : Int), y, z, ⟨0, 0⟩, ⟨(colN h k 0 : Int), (colN h k 1 : Int), (colN h k 2 : Int)⟩)).trans ?_
    rw [lt_eq, fx_succ]; simp only [s_ChanceTrait_L1]
    have ee : 0 + (chof (colN h k 0) j : Int) + (chof (colN h k 1) j : Int) + (chof (colN h k 2) j : Int) = (chS h k j : Int) := by unfold chS; omega
    rw [br_neg (show decide ((3 : Int) < 3) = false by decide), a3, ob_some, ee, hf]; rfl
end Go.Pl
namespace Go.Pl
open Go Go.Tv Go.RowKit
set_option linter.unusedVariables false
set_option linter.unusedSimpArgs false
def fr (I : List Ln) (x : Ln) : Bool := !I.any fun b => meets b x
def Q : List Ln → List Ln → List (List Ln)
  | [], _ => []
  | x :: ls, I => (if fr I x = true then (I ++ [x]) :: Q ls (I ++ [x]) else []) ++ Q ls I
theorem contP_eq {n : Nat} (hn : BIG ≤ n) {l : List Ln} (hl : l.length ≤ 9223372036854775807) (a : Ln) : slices_ContainsFunc_SA3_A3_'l_i_pickings_1p n l a = some (l.any fun b => meets b a, a) := by
  unfold slices_ContainsFunc_SA3_A3_'l_i_pickings_1p slices_IndexFunc_SA3_A3_'l_i_pickings_1p
  have := fx_find (B := slices_IndexFunc_SA3_A3_'l_i_pickings_1p_L1 n) l (fun i => (l, (l.length : Int), (i : Int), a)) (fun b => meets b a) (fun i => some ((i : Int), a)) (some (-1, a)) (fun self i hi => ?_) (fun self => ?_) n (big_gt hn (by omega))
  · have e : ((0 : Nat) : Int) = 0 := rfl
    simp only [e] at this
    rw [this, ← findIdx?_any]; cases l.findIdx? _ <;> simp
  · have e1 : decide ((i : Int) < (l.length : Int)) = true := decide_eq_true (by omega)
    obtain ⟨k, h1, h2⟩ := i_common_pos hn a l[i]
    simp only [slices_IndexFunc_SA3_A3_'l_i_pickings_1p_L1, e1, br_true, inb_ok hi, ckb_true, toNat_cast, gl_eq hi, lt_eq, i_pickings_1'p, h1, ob_some, h2]
    rw [w64_succ (by omega), meets_comm]
    cases meets l[i] a <;> simp
  · have e1 : decide ((l.length : Int) < (l.length : Int)) = false := decide_eq_false (by omega)
    simp only [slices_IndexFunc_SA3_A3_'l_i_pickings_1p_L1, e1, br_false]
theorem subL_full (I : List Ln) : sub I 0 I.length = I := by unfold sub; simp
theorem subL_drop (I : List Ln) (a : Nat) : sub I a I.length = I.drop a := by unfold sub; rw [List.take_of_length_le (by simp)]
def bsl (b L : List Ln) : List Ln := if b.length < L.length then L else b
theorem pf_R {n : Nat} (hn : BIG ≤ n) : ∀ (K : Nat) (ls I b : List Ln), ls.length < K → ls.length ≤ 40 → I.length + ls.length ≤ 1000 →
    fx (i_pickings'll_i_firstPicking_1p_o_R n) K (ls, I, b) = some ((I :: Q ls I).foldl bsl b)
  | 0, _, _, _, hK, _, _ => by omega
  | K + 1, ls, I, b, hK, h40, hI => by
    rw [fx_succ]
    simp only [i_pickings'll_i_firstPicking_1p_o_R]
    have hcl : slices_Clone_SA3_A3_ n I = some I := by
      unfold slices_Clone_SA3_A3_
      refine amb_eq ?_ fun he => ?_
      · rw [apok_ok (by omega) (by omega)]; rfl
      · have : I = [] := by simpa using he
        subst this; rfl
    have hv : i_firstPicking_1'lp_o n I b = some (bsl b I) := by
      unfold i_firstPicking_1'lp_o bsl
      by_cases e : b.length < I.length
      · rw [br_pos (decide_eq_true (by omega)), if_pos e, hcl]; rfl
      · rw [br_neg (decide_eq_false (by omega)), if_neg e]
    rw [hv, ob_some]
    have := fx_up (B := i_pickings'll_i_firstPicking_1p_o_L1 n (fx (i_pickings'll_i_firstPicking_1p_o_R n) K)) ls.length (fun i (b : List Ln) => (ls, I, ls, (ls.length : Int), (i : Int), b)) (fun _ _ => True) (fun i b => some ((Q (ls.drop i) I).foldl bsl b)) (fun self i b' hi _ ih => by
      simp only [i_pickings'll_i_firstPicking_1p_o_L1, lt_eq]
      by_cases h1 : i < ls.length
      · have hdl : (ls.drop (i + 1)).length = ls.length - (i + 1) := List.length_drop
        have ih := fun a' => ih a' h1 trivial
        rw [br_pos (decide_eq_true (show (i : Int) < (ls.length : Int) by omega)), ckb_pos (inb_ok h1), toNat_cast, gl_eq h1, contP_eq hn (by omega), ob_some, List.drop_eq_getElem_cons h1, Q, w64_succ (by omega)]
        unfold fr
        simp only []
        cases hf : I.any (fun b => meets b ls[i]) with
        | true =>
          simp only [Bool.not_true, br_false, Bool.false_eq_true, if_false, List.nil_append]
          exact ih b'
        | false =>
          have hr := pf_R hn K (ls.drop (i + 1)) (I ++ [ls[i]]) b' (by omega) (by omega) (by rw [List.length_append, List.length_singleton]; omega)
          have e1 : cand (slb 0 (I.length : Int) I.length) (decide True) = true := by rw [slb_ok (by omega) (by omega) (by omega)]; rfl
          have e2 : cand (apok 24 (I.length + 1)) (cor I.isEmpty true) = true := by
            rw [apok_ok (by omega) (by omega)]
            cases I.isEmpty <;> rfl
          simp only [Bool.not_false, br_true, if_true]
          rw [ckb_pos (slb_ok (by omega) (by omega) (by omega)), ckb_pos e1, subL_full, ckb_pos e2, toNat_cast, subL_drop, hr, ob_some, ih, List.foldl_append]
      · have : i = ls.length := by omega
        subst this
        rw [br_neg (decide_eq_false (by omega)), List.drop_length]; rfl) n 0 (bsl b I) (Nat.zero_le _) trivial (big_gt hn (by omega))
    refine Eq.trans this ?_
    rw [List.drop_zero, List.foldl_cons]
theorem bsl_max : ∀ (l : List (List Ln)) (b : List Ln), (l.foldl bsl b = b ∨ l.foldl bsl b ∈ l) ∧ b.length ≤ (l.foldl bsl b).length ∧ ∀ L ∈ l, L.length ≤ (l.foldl bsl b).length
  | [], b => ⟨.inl rfl, Nat.le_refl _, fun L hL => by cases hL⟩
  | d :: l, b => by
    obtain ⟨h1, h2, h3⟩ := bsl_max l (bsl b d)
    rw [List.foldl_cons]
    have hb : b.length ≤ (bsl b d).length ∧ d.length ≤ (bsl b d).length := by unfold bsl; split <;> omega
    refine ⟨?_, by omega, fun L hL => ?_⟩
    · rcases h1 with h1 | h1
      · rw [h1]
        unfold bsl
        split
        · exact .inr List.mem_cons_self
        · exact .inl rfl
      · exact .inr (List.mem_cons_of_mem _ h1)
    · rcases List.mem_cons.1 hL with rfl | hL
      · omega
      · exact h3 L hL
end Go.Pl
namespace Go.Pl
open Go Go.Tv Go.RowKit
set_option linter.unusedVariables false
set_option linter.unusedSimpArgs false
end Go.Pl
namespace Go.Pl
open Go Go.Tv Go.RowKit
set_option linter.unusedVariables false
set_option linter.unusedSimpArgs false
def bef (a b : Ln) : Bool := if a.x0 = b.x0 then (if a.x1 = b.x1 then decide (a.x2 < b.x2) else decide (a.x1 < b.x1)) else decide (a.x0 < b.x0)
end Go.Pl
namespace Go.Pl
open Go Go.Tv Go.RowKit
set_option linter.unusedVariables false
set_option linter.unusedSimpArgs false
end Go.Pl

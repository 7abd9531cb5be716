/- Plain laws: R45. -/
import Derived.Test.YtbkbkaonjhlplaaLLCd
import Derived.Test.YtbkbkaonjhlplaaLLDh
import Derived.Test.YtbkbkaonjhlplaaLR35
set_option linter.unusedVariables false
set_option linter.unusedSimpArgs false
namespace Go.Pl
open Go Go.Tv Go.RowKit
set_option linter.unusedVariables false
set_option linter.unusedSimpArgs false

theorem DrawIsCodeword_ok (n : Nat) {a : List Int} (h : ∀ x, x ∈ a → 0 ≤ x ∧ x ≤ 255) : ∃ c, s_DrawNearestCodeword n a = some c := by
  unfold s_DrawNearestCodeword s_DrawIsCodeword
  obtain ⟨b, c1, e1, k1⟩ := one_ok n (cu0 h) (by omega) (a := 2) (by omega)
  rw [lt_eq, e1, ob_some]
  cases b with
  | true =>
    simp only [br_true]
    obtain ⟨x, c2, e2, k2, _⟩ := pick_ok n k1 (by omega) (a := 3) (by omega)
    rw [e2, ob_some]
    obtain ⟨y, c3, e3, k3, _⟩ := pick_ok n k2 (by omega) (a := 3) (by omega)
    rw [e3, ob_some]
    exact ⟨_, rfl⟩
  | false =>
    simp only [br_false]
    obtain ⟨c, c2, e2, k2⟩ := card_ok n k1 (by omega)
    rw [e2, ob_some]
    exact ⟨_, rfl⟩
theorem DrawSendMessage_ok {n : Nat} (hn : BIG ≤ n) {a : List Int} (h : ∀ x, x ∈ a → 0 ≤ x ∧ x ≤ 255) : ∃ l, s_DrawSendMessage n a = some l ∧ l.length ≤ 28 := by
  unfold s_DrawSendMessage
  obtain ⟨q, c1, e1, k1, hq⟩ := among_ok n (cu0 h) (by omega) (l := [3, 6, 1, 0, 27, 28]) (by decide)
  have hq' := mem_small hq 0 28 (by decide)
  rw [lt_eq, e1, ob_some]
  have J1 : ∀ (b : Bool) (c : Cu) (l : List Int) (m : Nat), CuOK m c → m < 1000 → l.length ≤ 28 → (b = true → 0 < l.length) → ∃ l', s_DrawSendMessage_J1 n (b, c, l) = some l' ∧ l'.length ≤ 28 := by
    intro b c l m hc hm hl hb
    unfold s_DrawSendMessage_J1
    cases b with
    | false => exact ⟨l, rfl, hl⟩
    | true =>
      have h0 := hb rfl
      simp only [br_true]
      obtain ⟨i, c2, e2, k2, i0, i1⟩ := pick_ok n hc (by omega) (a := (l.length : Int)) (by omega)
      rw [e2, ob_some]
      obtain ⟨y, c3, e3, k3, _⟩ := among_ok n k2 (by omega) (l := [(-1), 9, 4611686018427387904]) (by decide)
      rw [e3, ob_some, ckb_pos (inb_pos i0 i1), lt_eq]
      exact ⟨_, rfl, by rw [List.length_set]; exact hl⟩
  refine fx_inv (B := s_DrawSendMessage_L2 n) (fun s => ∃ (q : Int) (c : Cu) (l : List Int), s = (q, c, l) ∧ 0 ≤ q ∧ q ≤ 28 ∧ (l.length : Int) ≤ 28 - q ∧ CuOK (2 + 2 * (28 - q.toNat)) c)
    (fun s => s.1.toNat) (fun o => ∃ l, o = some l ∧ l.length ≤ 28) ?_ n _ ⟨q, c1, [], rfl, hq'.1, hq'.2, by simp; omega, k1.mono (by omega)⟩ (big_gt hn (by simp only []; omega))
  rintro self _ ⟨q, c, l, rfl, q0, q28, hl, hc⟩ ih
  simp only [s_DrawSendMessage_L2]
  by_cases h0 : 0 < q
  · rw [br_pos (decide_eq_true h0)]
    obtain ⟨r, c2, e2, k2, _⟩ := pick_ok n hc (by omega) (a := 9) (by omega)
    rw [e2, ob_some, ckb_pos (apok_ok (by omega) (by omega)), lt_eq, w64_id (by omega)]
    exact ih _ ⟨q - 1, c2, _, rfl, by omega, by omega, by rw [List.length_append, List.length_singleton]; omega, k2.mono (by omega)⟩ (by simp only []; omega)
  · rw [br_neg (decide_eq_false h0), br_dec]
    split
    · obtain ⟨b, c2, e2, k2⟩ := one_ok n hc (by omega) (a := 20) (by omega)
      rw [e2, ob_some]
      exact J1 b c2 l _ k2 (by omega) (by omega) fun _ => by omega
    · exact J1 false c l _ hc (by omega) (by omega) fun h => by cases h
theorem sent_ok {n : Nat} (hn : BIG ≤ n) {m : Nat} {c : Cu} (hc : CuOK m c) (hm : m + 2000 < 4611686018427300000) : ∃ c' l, s_Cur_sent'p n c = some (c', l) ∧ l.length ≤ 28 ∧ CuOK (m + 2000) c' := by
  unfold s_Cur_sent'p
  obtain ⟨q, c1, e1, k1, hq⟩ := among_ok n hc (by omega) (l := [3, 6, 1, 0, 27, 28]) (by decide)
  have hq' := mem_small hq 0 28 (by decide)
  rw [e1, ob_some]
  refine fx_inv (B := s_Cur_sent'p_L2 n) (fun s => ∃ (q : Int) (c : Cu) (l : List Card), s = (q, c, l) ∧ 0 ≤ q ∧ q ≤ 28 ∧ (l.length : Int) ≤ 28 - q ∧ CuOK (m + 2 + 50 * (28 - q.toNat)) c)
    (fun s => s.1.toNat) (fun o => ∃ c' l, o = some (c', l) ∧ l.length ≤ 28 ∧ CuOK (m + 2000) c') ?_ n _ ⟨q, c1, [], rfl, hq'.1, hq'.2, by simp; omega, k1.mono (by omega)⟩ (big_gt hn (by simp only []; omega))
  clear k1 e1 hq hq' q c1 hc c
  rintro self _ ⟨q, c, l, rfl, q0, q28, hl, hc⟩ ih
  simp only [s_Cur_sent'p_L2]
  by_cases h0 : 0 < q
  · rw [br_pos (decide_eq_true h0)]
    have J1 : ∀ (c' : Cu) (x : Card), CuOK (m + 2 + 50 * (28 - q.toNat) + 20) c' → ∃ c2 l', s_Cur_sent'p_J1 n self (q, c', l, x) = some (c2, l') ∧ l'.length ≤ 28 ∧ CuOK (m + 2000) c2 := by
      intro c' x hc'
      unfold s_Cur_sent'p_J1
      obtain ⟨b, c2, e2, k2⟩ := one_ok n hc' (by omega) (a := 6) (by omega)
      simp only []
      rw [e2, ob_some]
      have fin : ∀ (c3 : Cu) (y : Card), CuOK (m + 2 + 50 * (28 - q.toNat) + 40) c3 → ∃ c2 l', ckb (apok 32 (l.length + 1)) (Tv.lt (w64 (q - 1)) fun (x11 : Int) => self (x11, c3, (l ++ [y]))) = some (c2, l') ∧ l'.length ≤ 28 ∧ CuOK (m + 2000) c2 := by
        intro c3 y hc3
        rw [ckb_pos (apok_ok (by omega) (by omega)), lt_eq, w64_id (by omega)]
        exact ih _ ⟨q - 1, c3, _, rfl, by omega, by omega, by rw [List.length_append, List.length_singleton]; omega, hc3.mono (by omega)⟩ (by simp only []; omega)
      cases b with
      | true =>
        simp only [br_true]
        obtain ⟨y, c3, e3, k3⟩ := card_ok n k2 (by omega)
        rw [e3, ob_some]
        exact fin c3 y (k3.mono (by omega))
      | false => simp only [br_false]; exact fin c2 x (k2.mono (by omega))
    obtain ⟨r, c3, e3, k3, _⟩ := pick_ok n hc (by omega) (a := 3) (by omega)
    rw [e3, ob_some]
    obtain ⟨r', c4, e4, k4, _⟩ := pick_ok n k3 (by omega) (a := 3) (by omega)
    rw [e4, ob_some, s_l11Word_eq, ob_some]
    obtain ⟨b, c5, e5, k5⟩ := one_ok n k4 (by omega) (a := 2) (by omega)
    rw [e5, ob_some]
    cases b with
    | true =>
      simp only [br_true]
      obtain ⟨t, c6, e6, k6, t0, t1⟩ := pick_ok n k5 (by omega) (a := 4) (by omega)
      rw [e6, ob_some]
      obtain ⟨y, c7, e7, k7, _⟩ := pick_ok n k6 (by omega) (a := 3) (by omega)
      rw [e7, ob_some, ckb_pos (inb_pos t0 t1), lt_eq]
      exact J1 c7 _ (k7.mono (by omega))
    | false => simp only [br_false]; exact J1 c5 _ (k5.mono (by omega))
  · rw [br_neg (decide_eq_false h0)]
    exact ⟨c, l, rfl, by omega, hc.mono (by omega)⟩
theorem DrawReadMessage_ok {n : Nat} (hn : BIG ≤ n) {a : List Int} (h : ∀ x, x ∈ a → 0 ≤ x ∧ x ≤ 255) : ∃ l, s_DrawReadMessage n a = some l ∧ l.length ≤ 28 := by
  unfold s_DrawReadMessage
  obtain ⟨c, l, e, hl, _⟩ := sent_ok hn (cu0 h) (by omega)
  rw [lt_eq, e, ob_some]
  exact ⟨l, rfl, hl⟩
theorem DrawCodeDistance_ok {n : Nat} (hn : BIG ≤ n) {a : List Int} (h : ∀ x, x ∈ a → 0 ≤ x ∧ x ≤ 255) : ∃ l l', s_DrawCodeDistance n a = some (l, l') ∧ l.length ≤ 28 ∧ l'.length ≤ 28 := by
  unfold s_DrawCodeDistance
  obtain ⟨c, l, e, hl, hc⟩ := sent_ok hn (cu0 h) (by omega)
  rw [lt_eq, e, ob_some]
  simp only []
  rw [s_l2Own_eq (by omega), ob_some]
  have J1 : ∀ (b : Bool) (x : List Card), x.length = l.length → (b = true → 0 < x.length) → ∃ l1 l2, s_DrawCodeDistance_J1 n (b, l, x) = some (l1, l2) ∧ l1.length ≤ 28 ∧ l2.length ≤ 28 := by
    intro b x hx hb
    unfold s_DrawCodeDistance_J1
    cases b with
    | true =>
      have := hb rfl
      simp only [br_true]
      rw [ckb_pos (slb_ok (by omega) (by omega) (by omega))]
      exact ⟨_, _, rfl, by simp [sub]; omega, hl⟩
    | false => simp only [br_false]; exact ⟨x, l, rfl, by omega, hl⟩
  refine fx_inv (B := s_DrawCodeDistance_L2 n) (fun s => ∃ (i : Nat) (c : Cu) (x : List Card), s = ((i : Int), c, l, x) ∧ i ≤ l.length ∧ x.length = l.length ∧ CuOK (2000 + 30 * i) c)
    (fun s => 100 - s.1.toNat) (fun o => ∃ l1 l2, o = some (l1, l2) ∧ l1.length ≤ 28 ∧ l2.length ≤ 28) ?_ n _ ⟨0, c, l, rfl, by omega, rfl, hc.mono (by omega)⟩ (big_gt hn (by simp only []; omega))
  clear hc e c
  rintro self _ ⟨i, c, x, rfl, hi, hx, hc⟩ ih
  simp only [s_DrawCodeDistance_L2]
  by_cases hlt : i < l.length
  · rw [br_pos (decide_eq_true (show (i : Int) < (x.length : Int) by omega))]
    obtain ⟨b, c2, e2, k2⟩ := one_ok n hc (by omega) (a := 3) (by omega)
    rw [e2, ob_some]
    cases b with
    | true =>
      simp only [br_true]
      rw [ckb_pos (inb_ok (by omega))]
      obtain ⟨y, c3, e3, k3⟩ := near_ok n (gl ⟨0, 0, 0, 0⟩ x (i : Int).toNat) k2 (by omega)
      rw [e3, ob_some, ckb_pos (inb_ok (by omega))]
      simp only [lt_eq]
      rw [w64_succ (by omega)]
      exact ih _ ⟨i + 1, c3, _, rfl, by omega, by rw [List.length_set]; exact hx, k3.mono (by omega)⟩ (by simp only []; omega)
    | false =>
      simp only [br_false, lt_eq]
      rw [w64_succ (by omega)]
      exact ih _ ⟨i + 1, c2, x, rfl, by omega, hx, k2.mono (by omega)⟩ (by simp only []; omega)
  · rw [br_neg (decide_eq_false (by omega)), br_dec]
    split
    · obtain ⟨b, c2, e2, k2⟩ := one_ok n hc (by omega) (a := 12) (by omega)
      rw [e2, ob_some]
      exact J1 b x hx fun _ => by omega
    · exact J1 false x hx fun h => by cases h

theorem v_rHand_eq' {n : Nat} (hn : BIG ≤ n) {a b : List Card} (hl : a.length ≤ 9223372036854775806) : v_rHand n a b = some (decide (a = b)) := by
  unfold v_rHand
  by_cases hlen : a.length = b.length
  · rw [decide_eq_true (show (a.length : Int) = (b.length : Int) by omega), Bool.not_true, br_false]
    have := fx_cnt (B := v_rHand_L1 n) a.length (fun i => (a, b, (i : Int))) (fun _ => True) (fun i => some (decide (a.drop i = b.drop i))) (fun self i hi _ ih => by
      simp only [v_rHand_L1, lt_eq]
      by_cases h : i < a.length
      · rw [br_pos (decide_eq_true (show (i : Int) < (a.length : Int) by omega)), ckb_pos (inb_ok h), ckb_pos (inb_ok (by omega)), toNat_cast, gl_eq h, gl_eq (show i < b.length by omega), dec_drop h (by omega), w64_succ (by omega), ih h trivial]
        unfold eqd
        cases decide (a[i] = b[i]) <;> rfl
      · rw [br_neg (decide_eq_false (by omega)), List.drop_eq_nil_of_le (by omega), List.drop_eq_nil_of_le (by omega)]; simp) n 0 (Nat.zero_le _) trivial (big_gt hn (by omega))
    simpa using this
  · rw [decide_eq_false (show ¬ (a.length : Int) = (b.length : Int) by omega)]
    have : a ≠ b := fun h => hlen (by rw [h])
    simp [this]
theorem v_rInts_eq {n : Nat} (hn : BIG ≤ n) {a b : List Int} (hl : a.length ≤ 9223372036854775806) : v_rInts n a b = some (decide (a = b)) := by
  rw [← v_vInts_eq hn hl]; rfl
structure CardF (n : Nat) (c : Card) : Prop where
  d : dif (nearV n c).1 c = if 0 ≤ (nearV n c).2 then 1 else 0
  w : wV (wordN (nearV n c).1) = (nearV n c).1
  i8 : in8 (wordN (nearV n c).1) = true
  cw : eqd (wAB c.x0 c.x3) c = decide ((nearV n c).2 < 0)
  J2 : v_FnCodes_J2 n (true, c, (nearV n c).1, cwList) = some true
theorem cardF {n : Nat} (hn : BIG ≤ n) {c : Card} (hc : isC c = true) : CardF n c := by
  obtain ⟨m, rfl⟩ : ∃ m, n = m + 64 := ⟨n - 64, by unfold BIG at hn; omega⟩
  have := List.all_eq_true.1 (ckCard_ok m) c (mem_cards81 hc)
  simp only [Bool.and_eq_true, decide_eq_true_eq, beq_iff_eq] at this
  obtain ⟨⟨⟨⟨h1, h2⟩, h3⟩, h4⟩, h5⟩ := this
  exact ⟨h1, h2, h3, h4, okB_eq h5⟩
structure SpF (n : Nat) (v : Int) : Prop where
  t : (nearV n (wV v)).2 < 0
  c : isC (wV v) = true
  w : wordN (nearV n (wV v)).1 = v
  sc : ∀ i, i < 27 → isC (spo (wV v) i) = true
  sw : ∀ i, i < 27 → wordN (nearV n (spo (wV v) i)).1 = v
theorem spF {n : Nat} (hn : BIG ≤ n) {v : Int} (hv : in8 v = true) : SpF n v := by
  obtain ⟨m, rfl⟩ : ∃ m, n = m + 64 := ⟨n - 64, by unfold BIG at hn; omega⟩
  unfold in8 at hv
  have hv := of_decide_eq_true hv
  have := List.all_eq_true.1 (ckSp_ok m) v.toNat (List.mem_range.2 (by omega))
  have e : ((v.toNat : Nat) : Int) = v := by omega
  simp only [e, Bool.and_eq_true, decide_eq_true_eq] at this
  obtain ⟨⟨h1, h2⟩, h3⟩ := this
  have h4 := fun i hi => by
    have := List.all_eq_true.1 h3 i (List.mem_range.2 hi)
    simp only [Bool.and_eq_true, decide_eq_true_eq] at this
    exact this
  exact ⟨h1, h2, (h4 0 (by omega)).2, fun i hi => (h4 i hi).1.1, fun i hi => (h4 i hi).1.2⟩
theorem readM_ok {n : Nat} {l : List Card} (h1 : l.all isC = true) (h2 : l.length ≤ 27) : readM n l = (((l.countP fun c => decide (0 ≤ (nearV n c).2) : Nat) : Int), true, l.map fun c => wordN (nearV n c).1) := by
  unfold readM
  rw [h1, decide_eq_true h2, if_pos (by rfl)]
  obtain ⟨g1, g2⟩ := msg_go (n := n) l (0, [])
  have e1 : (msgOf n l).2 = l.map fun c => wordN (nearV n c).1 := by unfold msgOf; rw [g1]; rfl
  have e2 : (msgOf n l).1 = l.countP fun c => decide (0 ≤ (nearV n c).2) := by unfold msgOf; rw [g2]; simp
  rw [e1, e2]
theorem codes_J3 {n : Nat} (hn : BIG ≤ n) (l : List Card) (hl : l.length ≤ 28) (c : Card) (b : Bool) (hb : b = isC c) (w : Card) (hw : isC c = true → w = (nearV n c).1) :
    v_FnCodes_J3 n (b, (readM n l).1, (readM n l).2.1, c, w, cwList, l, (readM n l).2.2) = some true := by
  have hJ2 : v_FnCodes_J2 n (b, c, w, cwList) = some true := by
    cases hc : isC c with
    | false => rw [hb, hc]; rfl
    | true => rw [hb, hc, hw hc]; exact (cardF hn hc).J2
  unfold v_FnCodes_J3
  simp only []
  by_cases hok : l.all isC = true ∧ l.length ≤ 27
  · obtain ⟨h1, h2⟩ := hok
    rw [readM_ok h1 h2]
    simp only [br_true]
    have hC := fun x hx => List.all_eq_true.1 h1 x hx
    have hm : isMsg (l.map fun c => wordN (nearV n c).1) = true := by
      unfold isMsg
      rw [Bool.and_eq_true, decide_eq_true_eq, List.length_map]
      refine ⟨List.all_eq_true.2 fun x hx => ?_, h2⟩
      obtain ⟨y, hy, rfl⟩ := List.mem_map.1 hx
      exact (cardF hn (hC y hy)).i8
    have hs : SM (l.map fun c => wordN (nearV n c).1) = (true, l.map fun c => (nearV n c).1) := by
      unfold SM
      rw [if_pos hm, List.map_map]
      congr 1
      exact List.map_congr_left fun x hx => (cardF hn (hC x hx)).w
    rw [i_SendMessage_eq hn (by rw [List.length_map]; omega), ob_some, hs, i_CodeDistance_eq hn (by rw [List.length_map]; omega) (by omega), ob_some]
    have hcd : cdOK (l.map fun c => (nearV n c).1) l = true := by
      unfold cdOK
      simp only [Bool.and_eq_true, decide_eq_true_eq, List.length_map]
      refine ⟨⟨⟨h2, trivial⟩, List.all_eq_true.2 fun x hx => ?_⟩, h1⟩
      obtain ⟨y, hy, rfl⟩ := List.mem_map.1 hx
      exact (near_ok' hn (hC y hy)).2.2.1
    have hcv : cds (l.map fun c => (nearV n c).1) l = l.countP fun c => decide (0 ≤ (nearV n c).2) := by
      unfold cds
      rw [List.length_map, ← S_countP (fun c => decide (0 ≤ (nearV n c).2)) ⟨0, 0, 0, 0⟩ l]
      refine S_congr fun i hi => ?_
      rw [gl_eq (show i < (l.map fun c => (nearV n c).1).length by rw [List.length_map]; exact hi), gl_eq hi, List.getElem_map]
      have := (cardF hn (hC l[i] (List.getElem_mem hi))).d
      unfold dN b2
      rw [this]
      by_cases ht : 0 ≤ (nearV n l[i]).2 <;> simp [ht]
    have hCD : CD (l.map fun c => (nearV n c).1) l = (((l.countP fun c => decide (0 ≤ (nearV n c).2) : Nat) : Int), true) := by
      unfold CD; rw [if_pos hcd, hcv]
    rw [hCD]
    simp only [Bool.not_true, br_some, ob_some, decide_true, Bool.false_eq_true, if_false, br_false]
    exact hJ2
  · have : readM n l = (0, false, []) := by
      unfold readM
      rw [if_neg]
      intro h; apply hok
      rw [Bool.and_eq_true, decide_eq_true_eq] at h
      exact h
    rw [this]
    exact hJ2
theorem codes_L4 {n : Nat} (hn : BIG ≤ n) (l : List Card) (hl : l.length ≤ 28) (m : List Int) (hm : isMsg m = true) (c : Card) (b : Bool) (hb : b = isC c) (w : Card) (hw : isC c = true → w = (nearV n c).1) :
    fx (v_FnCodes_L4 n) n (b, (readM n l).1, (readM n l).2.1, 0, c, w, cwList, m, m.map wV, l, (readM n l).2.2, m.map wV) = some true := by
  have hJ3 := codes_J3 hn l hl c b hb w hw
  unfold isMsg at hm
  rw [Bool.and_eq_true, decide_eq_true_eq] at hm
  obtain ⟨hm8, hm27⟩ := hm
  have hF : ∀ i (hi : i < m.length), SpF n m[i] := fun i hi => spF hn (List.all_eq_true.1 hm8 _ (List.getElem_mem hi))
  have e0 : m.map wV = tb m.length fun i => wV (gl 0 m i) := by
    have e1 : m.map wV = (tb m.length fun i => gl 0 m i).map wV := congrArg (List.map wV) (tb_of 0 m)
    rw [e1, tb_map]
  generalize hx : m.map wV = X at e0
  have e2 : (tb m.length fun i => wV (gl 0 m i)) = tb m.length fun i => if i < 0 then spo (wV (gl 0 m i)) i else wV (gl 0 m i) := tb_congr fun i _ => by rw [if_neg (by omega)]
  have key := fx_cnt (B := v_FnCodes_L4 n) m.length (fun k => (b, (readM n l).1, (readM n l).2.1, (k : Int), c, w, cwList, m, X, l, (readM n l).2.2, tb m.length fun i => if i < k then spo (wV (gl 0 m i)) i else wV (gl 0 m i))) (fun _ => True) (fun _ => some true) (fun self k hk _ ih => by
    simp only [v_FnCodes_L4, tb_len, lt_eq]
    by_cases hlt : k < m.length
    · have t4 : Int.tmod (k : Int) 4 = ((k % 4 : Nat) : Int) := rfl
      rw [br_pos (decide_eq_true (show (k : Int) < (m.length : Int) by omega)), t4, ckb_pos (inb_ok hlt), ckb_pos (inb_ok (by omega)), ckb_pos (inb_ok hlt), ckb_pos (inb_ok (by omega)), toNat_cast, toNat_cast, tb_gl hlt, if_neg (by omega), tb_set, w64_succ (by omega)]
      refine Eq.trans ?_ (ih hlt trivial)
      congr 1
      simp only [Prod.mk.injEq, true_and]
      refine tb_congr fun i hi => ?_
      by_cases h1 : i = k
      · subst h1; rw [if_pos rfl, if_pos (by omega)]; rfl
      · rw [if_neg h1]
        by_cases h2 : i < k
        · rw [if_pos h2, if_pos (by omega)]
        · rw [if_neg h2, if_neg (by omega)]
    · have : k = m.length := by omega
      subst this
      rw [br_neg (decide_eq_false (by omega))]
      have er : ∀ Y : List Card, Y.length ≤ 1048576 → i_ReadMessage n Y = some (readM n Y) := fun Y hY => i_ReadMessage_eq hn hY
      have e3 : (tb m.length fun i => if i < m.length then spo (wV (gl 0 m i)) i else wV (gl 0 m i)) = tb m.length fun i => spo (wV (gl 0 m i)) i := tb_congr fun i hi => by rw [if_pos hi]
      have hXl : X.length = m.length := by rw [e0, tb_len]
      rw [e3, er X (by omega), ob_some, er _ (by rw [tb_len]; omega), ob_some]
      have a1 : X.all isC = true := by
        rw [← hx]
        refine List.all_eq_true.2 fun x hx => ?_
        obtain ⟨v, hv, rfl⟩ := List.mem_map.1 hx
        exact (spF hn (List.all_eq_true.1 hm8 v hv)).c
      have a2 : (tb m.length fun i => spo (wV (gl 0 m i)) i).all isC = true := by
        refine List.all_eq_true.2 fun x hx => ?_
        obtain ⟨i, hi, rfl⟩ := List.getElem_of_mem hx
        rw [tb_get]
        rw [tb_len] at hi
        rw [gl_eq hi]
        exact (hF i hi).sc i (by omega)
      have a3 : (X.countP fun c => decide (0 ≤ (nearV n c).2)) = 0 := by
        rw [List.countP_eq_zero]
        intro x hx'
        rw [← hx] at hx'
        obtain ⟨v, hv, rfl⟩ := List.mem_map.1 hx'
        have := (spF hn (List.all_eq_true.1 hm8 v hv)).t
        simp; omega
      have a4 : (X.map fun c => wordN (nearV n c).1) = m := by
        rw [← hx, List.map_map]
        have : ∀ x ∈ m, ((fun c => wordN (nearV n c).1) ∘ wV) x = id x := fun v hv => (spF hn (List.all_eq_true.1 hm8 v hv)).w
        rw [List.map_congr_left this, List.map_id]
      have a5 : ((tb m.length fun i => spo (wV (gl 0 m i)) i).map fun c => wordN (nearV n c).1) = m := by
        rw [tb_map]
        have : (tb m.length fun i => wordN (nearV n (spo (wV (gl 0 m i)) i)).1) = tb m.length fun i => gl 0 m i := tb_congr fun i hi => by
          rw [gl_eq hi]; exact (hF i hi).sw i (by omega)
        rw [this]; exact (tb_of 0 m).symm
      rw [readM_ok a1 (by omega), readM_ok a2 (by rw [tb_len]; omega), a3, a4, a5]
      simp only [v_rInts_eq hn (show m.length ≤ 9223372036854775806 by omega), Bool.not_true, br_some, ob_some, decide_true, Bool.false_eq_true, if_false, br_false, Int.ofNat_zero, show (decide (((0 : Nat) : Int) = 0)) = true from rfl]
      exact hJ3) n 0 (Nat.zero_le _) trivial (big_gt hn (by omega))
  rw [← e2, ← e0] at key
  exact key
theorem law_FnCodes {n : Nat} (hn : BIG ≤ n) (a : List Int) (ok : (Ty.sl (.int .u8)).ok a) : v_FnCodes n a = some true := by
  have hb : ∀ x, x ∈ a → 0 ≤ x ∧ x ≤ 255 := fun x hx => bounds_u8 (ok.2 x hx)
  unfold v_FnCodes v_rBig
  rw [ob_some, br_dec]
  split
  · rfl
  obtain ⟨c, e1⟩ := DrawIsCodeword_ok n hb
  obtain ⟨m, e2, hm⟩ := DrawSendMessage_ok hn hb
  obtain ⟨l, e3, hl⟩ := DrawReadMessage_ok hn hb
  obtain ⟨x, y, e4, hx, hy⟩ := DrawCodeDistance_ok hn hb
  have hcw : i_Codewords n = some cwList ∧ s_Codewords n = some cwList := by
    obtain ⟨m, rfl⟩ : ∃ m, n = m + 64 := ⟨n - 64, by unfold BIG at hn; omega⟩
    have := ckCw_ok m
    unfold ckCw at this
    rw [Bool.and_eq_true, decide_eq_true_eq, decide_eq_true_eq] at this
    exact this
  have er : i_ReadMessage n l = some (readM n l) := i_ReadMessage_eq hn (by omega)
  have es : s_ReadMessage n l = some (readM n l) := s_ReadMessage_eq hn (by omega)
  have hrl := readM_len (n := n) (l := l)
  have hN : ∃ w t, i_NearestCodeword n c = some (w, t, isC c) ∧ s_NearestCodeword n c = some (w, t, isC c) ∧ (isC c = true → w = (nearV n c).1 ∧ t = (nearV n c).2) := by
    unfold i_NearestCodeword s_NearestCodeword
    rw [i_IsCard_eq hn, s_l2Card_eq hn]
    cases hc : isC c with
    | false => exact ⟨_, _, rfl, rfl, fun h => by cases h⟩
    | true =>
      obtain ⟨g1, g2, _⟩ := near_ok' hn hc
      simp only [ob_some, Bool.not_true, br_false]
      rw [g1, g2]
      exact ⟨_, _, rfl, rfl, fun _ => ⟨rfl, rfl⟩⟩
  obtain ⟨w, t, e5, e6, hwt⟩ := hN
  have hI : ∃ p, i_IsCodeword n c = some (p, isC c) ∧ s_IsCodeword n c = some (p, isC c) ∧ (isC c = true → p = decide (t < 0)) := by
    unfold i_IsCodeword s_IsCodeword
    rw [i_IsCard_eq hn, s_l2Card_eq hn]
    cases hc : isC c with
    | false => exact ⟨_, rfl, rfl, fun h => by cases h⟩
    | true =>
      refine ⟨eqd (wAB c.x0 c.x3) c, rfl, ?_, fun _ => ?_⟩
      · show some (eqd c (wAB c.x0 c.x3), true) = _
        congr 2
        unfold eqd
        congr 1; exact propext ⟨Eq.symm, Eq.symm⟩
      · rw [(hwt hc).2]; exact (cardF hn hc).cw
  obtain ⟨p, e7, e8, hp⟩ := hI
  have hJ3 := codes_J3 hn l hl c (isC c) rfl w fun h => (hwt h).1
  have hrl2 : v_rHand n cwList cwList = some true := by rw [v_rHand_eq' hn (by simp [cwList])]; simp
  have eqs' : ∀ z : Card, eqd z z = true := fun z => by simp [eqd]
  have hcx : (if isC c = true then !(p == decide (t < 0)) else false) = false := by
    cases hc : isC c with
    | false => rfl
    | true => rw [hp hc]; simp
  rw [e1, ob_some, e5, ob_some, e6, ob_some]
  simp only [eqs', decide_true, Bool.not_true, br_some, ob_some, Bool.false_eq_true, if_false, beq_self_eq_true, i_IsCard_eq hn, br_false, e7, e8, hcx, hcw.1, hcw.2, hrl2, e2, i_SendMessage_eq hn (show m.length ≤ 1048576 by omega), s_SendMessage_eq hn (show m.length ≤ 1048576 by omega), e3, er, es, v_rInts_eq hn (show (readM n l).2.2.length ≤ 9223372036854775806 by omega), e4, i_CodeDistance_eq hn (show y.length ≤ 1048576 by omega) (show x.length ≤ 1048576 by omega), s_CodeDistance_eq hn (show y.length ≤ 1048576 by omega) (show x.length ≤ 1048576 by omega)]
  have hSl : (SM m).2.length ≤ 28 := by unfold SM; split <;> simp; omega
  rw [v_rHand_eq' hn (by omega)]
  have h9 : (cwList.length : Int) = 9 := rfl
  simp only [h9, decide_true, Bool.not_true, br_some, ob_some, Bool.false_eq_true, if_false, br_false]
  cases hms : isMsg m with
  | false =>
    have : SM m = (false, []) := by unfold SM; rw [hms]; rfl
    rw [this]
    exact hJ3
  | true =>
    have : SM m = (true, m.map wV) := by unfold SM; rw [hms]; rfl
    rw [this]
    simp only [br_true]
    rw [ckb_pos (apok_ok (by rw [List.length_map]; omega) (by rw [List.length_map]; omega))]
    exact codes_L4 hn l hl m hms c (isC c) rfl w fun h => (hwt h).1
end Go.Pl

/- Plain laws: LGd, LCm. -/
import Derived.Test.YtfoielhhflbbfaaG8
import Derived.Test.YtfoielhhflbbfaaG2
import Derived.Test.YtfoielhhflbbfaaG3
set_option linter.unusedVariables false
set_option linter.unusedSimpArgs false
namespace Go.Pl
open Go Go.Tv Go.RowKit
set_option linter.unusedVariables false
set_option linter.unusedSimpArgs false
theorem newDeal_ok {n : Nat} (hn : BIG ≤ n) {r : Int} (hr : 0 ≤ r ∧ r ≤ 65535) : ∃ p, Piles n r p ∧ s_NewDeal n r = some (r, 12, true, p.take 12) ∧ i_newDeal n r = some (r, 12, p.take 12) ∧ i_isSeed n r = some true ∧ DealOK p (r, (12, p.take 12)) := by
  obtain ⟨p, ps, pi, pp⟩ := pile_ok hn hr
  obtain ⟨h81, hnd, hc⟩ := pile_facts pp
  have hsub : sub p 0 (0 + (w64 (12 - 0)).toNat) = p.take 12 := by
    rw [show w64 (12 - 0) = 12 from by decide]
    unfold sub; simp
  have htl : (p.take 12).length = 12 := by rw [List.length_take]; omega
  have eSeed : i_isSeed n r = some true := by unfold i_isSeed; rw [i_within_eq, decide_eq_true hr]; rfl
  have sSeed : s_l4Seed n r = some true := by unfold s_l4Seed; rw [s_l1In_eq, decide_eq_true hr]; rfl
  refine ⟨p, ⟨ps, pi, pp⟩, ?_, ?_, eSeed, ⟨hr, by show (0 : Int) ≤ 12 ∧ (12 : Int) ≤ 81; omega, hnd.sublist (List.take_sublist _ _), fun c hc => hc⟩⟩
  · unfold s_NewDeal
    rw [sSeed, ob_some, ps, Bool.not_true, br_false, ob_some, ckb_pos (slb_ok (by omega) (by omega) (by omega)), hsub, s_l2Own_eq (by omega)]; rfl
  · unfold i_newDeal
    rw [pi, ob_some, ckb_pos (slb_ok (by omega) (by omega) (by omega)), hsub, slices_Clone_SA4_A4__eq (by omega)]; rfl
theorem newDeal_no {n : Nat} {r : Int} (hr : ¬ (0 ≤ r ∧ r ≤ 65535)) : i_isSeed n r = some false ∧ s_NewDeal n r = some (0, 0, false, []) := by
  constructor
  · unfold i_isSeed; rw [i_within_eq, decide_eq_false hr]; rfl
  · unfold s_NewDeal s_l4Seed; rw [s_l1In_eq, decide_eq_false hr]; rfl
def DealR (m : Nat) (o : Opt (Int × Int × Cu × List Card)) : Prop := ∃ s l c' h, o = some (s, l, c', h) ∧ h.length ≤ 82 ∧ CuOK m c'
theorem sub_le {α : Type} (h : List α) (x y : Nat) : (sub h x y).length ≤ h.length := by unfold sub; rw [List.length_take, List.length_drop]; omega
theorem deal_J1 {n : Nat} {m : Nat} {c : Cu} (hc : CuOK m c) (hm : m + 50 < 4611686018427300000) (z s l : Int) {h : List Card} (hl : h.length ≤ 81) : DealR (m + 30) (s_Cur_deal'p_J1 n (c, 0, z, s, l, h)) := by
  unfold s_Cur_deal'p_J1
  obtain ⟨q, c1, e1, k1, q0, q1⟩ := pick_ok n hc (by omega) (a := 40) (by omega)
  simp only []
  rw [e1, ob_some, br_dec]
  split
  · obtain ⟨y, c2, e2, k2, _⟩ := among_ok n k1 (by omega) (l := [(-1), 82, 0, 81]) (by decide)
    rw [e2, ob_some]
    exact ⟨_, _, _, _, rfl, by omega, k2.mono (by omega)⟩
  · rw [br_dec]
    split
    · obtain ⟨y, c2, e2, k2⟩ := card_ok n k1 (by omega)
      rw [e2, ob_some, ckb_pos (apok_ok (by omega) (by omega))]
      exact ⟨_, _, _, _, rfl, by rw [List.length_append, List.length_singleton]; omega, k2.mono (by omega)⟩
    · rw [br_dec]
      split
      · obtain ⟨y, c2, e2, k2⟩ := seedOf_ok (n := n) k1 (by omega)
        rw [e2, ob_some]
        exact ⟨_, _, _, _, rfl, by omega, k2.mono (by omega)⟩
      · exact ⟨_, _, _, _, rfl, by omega, k1.mono (by omega)⟩
theorem deal_L2 {n : Nat} (hn : BIG ≤ n) {m : Nat} {c : Cu} (hc : CuOK m c) (hm : m + 100 < 4611686018427300000) {p : List Card} : ∀ (k : Nat) (cnt : Int) (d : Deal), Piles n d.1 p → DealOK p d → cnt ≤ 1000 → cnt.toNat < k →
    DealR (m + 50) (fx (s_Cur_deal'p_L2 n) k (cnt, c, 0, 0, d.1, d.2.1, d.2.2))
  | 0, _, _, _, _, _, h => by omega
  | k + 1, cnt, d, P, D, hb, hk => by
    obtain ⟨h81, _, _⟩ := pile_facts P.perm
    have hlen := D.len h81
    rw [fx_succ]
    simp only [s_Cur_deal'p_L2, lt_eq]
    have e2 : s_l4Over n (d.1, (d.2.1, d.2.2)) = some (ovB d) := s_l4Over_eq hn P.perm D
    rw [e2]
    simp only [ob_some]
    have goL : ∀ d' : Deal, s_l4Step n (d.1, (d.2.1, d.2.2)) = some (d.1, d'.2.1, d'.2.2) → d'.1 = d.1 → DealOK p d' → 0 < cnt → DealR (m + 50) (ob (s_l4Step n (d.1, (d.2.1, d.2.2))) fun r9 => fx (s_Cur_deal'p_L2 n) k (w64 (cnt - 1), c, 0, 0, r9.1, r9.2.1, r9.2.2)) := fun d' e hs hd hp => by
      rw [e, ob_some, w64_id (by omega)]
      have := deal_L2 hn hc hm k (cnt - 1) d' (by rw [hs]; exact P) hd (by omega) (by omega)
      rw [hs] at this
      exact this
    by_cases hp : 0 < cnt
    · rw [decide_eq_true hp, br_true]
      simp only [ob_some]
      cases ho : ovB d with
      | true =>
        rw [Bool.not_true, br_false]
        obtain ⟨b, c1, e1, k1⟩ := one_ok n hc (by omega) (a := 8) (by omega)
        rw [e1, ob_some]
        simp only []
        have J : ∀ (b : Bool), (b = true → 3 < d.2.2.length) → DealR (m + 50) (br b (ob (s_Cur_pick'p n 3 c1) fun r19 => ckb (slb 0 (w64 (w64 ((d.2.2.length : Int) - 1) - r19.1)) d.2.2.length) (s_Cur_deal'p_J1 n (r19.2, 0, 0, d.1, d.2.1, (sub d.2.2 0 (w64 (w64 (w64 ((d.2.2.length : Int) - 1) - r19.1) - 0)).toNat)))) (s_Cur_deal'p_J1 n (c1, 0, 0, d.1, d.2.1, d.2.2))) := fun b hb => by
          cases b with
          | false =>
            rw [br_false]
            obtain ⟨s, l, c', h, e, h1, h2⟩ := deal_J1 (n := n) k1 (by omega) 0 d.1 d.2.1 hlen
            exact ⟨s, l, c', h, e, h1, h2.mono (by omega)⟩
          | true =>
            have := hb rfl
            rw [br_true]
            obtain ⟨q, c2, e2, k2, q0, q1⟩ := pick_ok n k1 (by omega) (a := 3) (by omega)
            rw [e2, ob_some]
            simp only []
            rw [w64_id (x := (d.2.2.length : Int) - 1) (by omega), w64_id (x := (d.2.2.length : Int) - 1 - q) (by omega), ckb_pos (slb_ok (by omega) (by omega) (by omega))]
            have hs := sub_le d.2.2 0 (w64 ((d.2.2.length : Int) - 1 - q - 0)).toNat
            obtain ⟨s, l, c', h, e, h1, h2⟩ := deal_J1 (n := n) k2 (by omega) 0 d.1 d.2.1 (h := sub d.2.2 0 (w64 ((d.2.2.length : Int) - 1 - q - 0)).toNat) (by omega)
            exact ⟨s, l, c', h, e, h1, h2.mono (by omega)⟩
        cases b with
        | false => exact J false (fun h => by cases h)
        | true =>
          rw [br_true, ob_some]
          exact J _ (fun h => by have := of_decide_eq_true h; omega)
      | false =>
        rw [Bool.not_false, br_true]
        by_cases h0 : (linesOf d.2.2).length = 0
        · exact goL (layD p d 3) (step_lay hn P D h0).2 rfl (layD_ok D P.perm (by omega)) hp
        · exact goL (takeD p d (fstL d)) (step_take hn P D h0).2 rfl (takeD_ok D P.perm _) hp
    · rw [decide_eq_false hp, br_false, ob_some, br_false]
      obtain ⟨b, c1, e1, k1⟩ := one_ok n hc (by omega) (a := 8) (by omega)
      rw [e1, ob_some]
      simp only []
      have J : ∀ (b : Bool), (b = true → 3 < d.2.2.length) → DealR (m + 50) (br b (ob (s_Cur_pick'p n 3 c1) fun r19 => ckb (slb 0 (w64 (w64 ((d.2.2.length : Int) - 1) - r19.1)) d.2.2.length) (s_Cur_deal'p_J1 n (r19.2, 0, 0, d.1, d.2.1, (sub d.2.2 0 (w64 (w64 (w64 ((d.2.2.length : Int) - 1) - r19.1) - 0)).toNat)))) (s_Cur_deal'p_J1 n (c1, 0, 0, d.1, d.2.1, d.2.2))) := fun b hb => by
        cases b with
        | false =>
          rw [br_false]
          obtain ⟨s, l, c', h, e, h1, h2⟩ := deal_J1 (n := n) k1 (by omega) 0 d.1 d.2.1 hlen
          exact ⟨s, l, c', h, e, h1, h2.mono (by omega)⟩
        | true =>
          have := hb rfl
          rw [br_true]
          obtain ⟨q, c2, e2, k2, q0, q1⟩ := pick_ok n k1 (by omega) (a := 3) (by omega)
          rw [e2, ob_some]
          simp only []
          rw [w64_id (x := (d.2.2.length : Int) - 1) (by omega), w64_id (x := (d.2.2.length : Int) - 1 - q) (by omega), ckb_pos (slb_ok (by omega) (by omega) (by omega))]
          have hs := sub_le d.2.2 0 (w64 ((d.2.2.length : Int) - 1 - q - 0)).toNat
          obtain ⟨s, l, c', h, e, h1, h2⟩ := deal_J1 (n := n) k2 (by omega) 0 d.1 d.2.1 (h := sub d.2.2 0 (w64 ((d.2.2.length : Int) - 1 - q - 0)).toNat) (by omega)
          exact ⟨s, l, c', h, e, h1, h2.mono (by omega)⟩
      cases b with
      | false => exact J false (fun h => by cases h)
      | true =>
        rw [br_true, ob_some]
        exact J _ (fun h => by have := of_decide_eq_true h; omega)
theorem deal_ok {n : Nat} (hn : BIG ≤ n) {m : Nat} {c : Cu} (hc : CuOK m c) (hm : m + 200 < 4611686018427300000) : DealR (m + 100) (s_Cur_deal'p n c) := by
  unfold s_Cur_deal'p
  obtain ⟨r, c1, e1, k1⟩ := seedOf_ok (n := n) hc (by omega)
  obtain ⟨q, c2, e2, k2, hq⟩ := among_ok n k1 (by omega) (l := [0, 3, 8, 15, 24, 40, 1]) (by decide)
  rw [e1, ob_some, e2, ob_some]
  have hq2 : q ≤ 40 := by simp at hq; omega
  by_cases hr : 0 ≤ r ∧ r ≤ 65535
  · obtain ⟨p, P, es, _, _, D⟩ := newDeal_ok hn hr
    rw [es, ob_some, Bool.not_true, br_false]
    obtain ⟨s, l, c', h, e, h1, h2⟩ := deal_L2 hn k2 (by omega) n q (r, (12, p.take 12)) P D (by omega) (big_gt hn (by omega))
    exact ⟨s, l, c', h, e, h1, h2.mono (by omega)⟩
  · rw [(newDeal_no hr).2, ob_some, Bool.not_false, br_true]
    exact ⟨_, _, _, _, rfl, by simp, k2.mono (by omega)⟩
def GameR (m : Nat) (o : Opt (Int × Int × Cu × List Card × List Int × List Int)) : Prop := ∃ s l c' h a b, o = some (s, l, c', h, a, b) ∧ h.length ≤ 82 ∧ a.length ≤ 6 ∧ b.length ≤ 6 ∧ CuOK m c'
theorem game_J1 {n : Nat} {m : Nat} {c : Cu} (hc : CuOK m c) (hm : m + 50 < 4611686018427300000) (w : Bool) (x y s l : Int) {h : List Card} (hl : h.length ≤ 82) {a b : List Int} (ha : a.length ≤ 5) (hb : b.length = a.length) (h0 : w = true → 0 < a.length) :
    GameR (m + 30) (s_Cur_game'p_J1 n (w, c, x, y, s, l, h, a, b)) := by
  unfold s_Cur_game'p_J1
  cases w with
  | false => exact ⟨_, _, _, _, _, _, rfl, hl, by simp only []; omega, by simp only []; omega, hc.mono (by omega)⟩
  | true =>
    have h0 := h0 rfl
    simp only [br_true]
    obtain ⟨q, c1, e1, k1, q0, q1⟩ := pick_ok n hc (by omega) (a := 3) (by omega)
    rw [e1, ob_some, br_dec]
    split
    · obtain ⟨r, c2, e2, k2, r0, r1⟩ := pick_ok n k1 (by omega) (a := (a.length : Int)) (by omega)
      rw [e2, ob_some]
      obtain ⟨t, c3, e3, k3, _⟩ := among_ok n k2 (by omega) (l := [(-1), 61]) (by decide)
      rw [e3, ob_some, ckb_pos (inb_pos r0 r1), lt_eq]
      exact ⟨_, _, _, _, _, _, rfl, hl, by rw [List.length_set]; omega, by omega, k3.mono (by omega)⟩
    · rw [br_dec]
      split
      · obtain ⟨r, c2, e2, k2, r0, r1⟩ := pick_ok n k1 (by omega) (a := (b.length : Int)) (by omega)
        rw [e2, ob_some]
        obtain ⟨t, c3, e3, k3, _⟩ := among_ok n k2 (by omega) (l := [(-1), 61]) (by decide)
        rw [e3, ob_some, ckb_pos (inb_pos r0 r1), lt_eq]
        exact ⟨_, _, _, _, _, _, rfl, hl, by omega, by rw [List.length_set]; omega, k3.mono (by omega)⟩
      · rw [ckb_pos (apok_ok (by omega) (by omega))]
        exact ⟨_, _, _, _, _, _, rfl, hl, by omega, by rw [List.length_append, List.length_singleton]; omega, k1.mono (by omega)⟩
theorem game_L2 {n : Nat} (hn : BIG ≤ n) {mm : Nat} (hm : mm + 100 < 4611686018427300000) (x y x' y' s l : Int) {h : List Card} (hl : h.length ≤ 82) : ∀ (k : Nat) (cnt : Int) (c : Cu) (a b : List Int) (m : Nat), CuOK m c → m + 10 * cnt.toNat ≤ mm → a.length + cnt.toNat ≤ 5 → b.length = a.length → cnt.toNat < k →
    GameR (mm + 40) (fx (s_Cur_game'p_L2 n) k (cnt, c, x, y, s, l, x', y', h, a, b))
  | 0, _, _, _, _, _, _, _, _, _, h => by omega
  | k + 1, cnt, c, a, b, m, hc, hmm, ha, hb, hk => by
    rw [fx_succ]
    simp only [s_Cur_game'p_L2, lt_eq]
    rw [br_dec]
    split
    · obtain ⟨q, c1, e1, k1, _⟩ := among_ok n hc (by omega) (l := [0, 1, 2, 5, 3, 60]) (by decide)
      rw [e1, ob_some, ckb_pos (apok_ok (by omega) (by omega))]
      obtain ⟨r, c2, e2, k2, _⟩ := among_ok n k1 (by omega) (l := [0, 1, 0, 2, 60]) (by decide)
      rw [e2, ob_some, ckb_pos (apok_ok (by omega) (by omega)), w64_id (by omega)]
      exact game_L2 hn hm x y x' y' s l hl k (cnt - 1) c2 (a ++ [q]) (b ++ [r]) _ k2 (by omega) (by rw [List.length_append, List.length_singleton]; omega) (by rw [List.length_append, List.length_append, hb]; rfl) (by omega)
    · have J : ∀ (w : Bool) (c' : Cu), CuOK (m + 2) c' → (w = true → 0 < a.length) → GameR (mm + 40) (s_Cur_game'p_J1 n (w, c', x, y, s, l, h, a, b)) := fun w c' hc' h0 => by
        obtain ⟨s', l', c1, h', a', b', e, h1, h2, h3, h4⟩ := game_J1 (n := n) hc' (by omega) w x y s l hl (a := a) (b := b) (by omega) hb h0
        exact ⟨s', l', c1, h', a', b', e, h1, h2, h3, h4.mono (by omega)⟩
      rw [br_dec]
      split
      · obtain ⟨w, c1, e1, k1⟩ := one_ok n hc (by omega) (a := 40) (by omega)
        rw [e1, ob_some]
        exact J _ _ k1 (fun _ => by omega)
      · exact J _ _ (hc.mono (by omega)) (fun h => by cases h)
theorem game_ok {n : Nat} (hn : BIG ≤ n) {m : Nat} {c : Cu} (hc : CuOK m c) (hm : m + 500 < 4611686018427300000) : GameR (m + 300) (s_Cur_game'p n c) := by
  unfold s_Cur_game'p
  obtain ⟨s, l, c1, h, e1, hl, k1⟩ := deal_ok hn hc (by omega)
  rw [e1, ob_some]
  obtain ⟨q, c2, e2, k2, hq⟩ := among_ok n k1 (by omega) (l := [2, 3, 1, 4, 2, 0, 5]) (by decide)
  rw [e2, ob_some]
  have hq2 : 0 ≤ q ∧ q ≤ 5 := by simp at hq; omega
  obtain ⟨s', l', c', h', a', b', e, h1, h2, h3, h4⟩ := game_L2 hn (mm := m + 160) (by omega) 0 0 0 0 s l hl n q c2 [] [] _ k2 (by omega) (by simp; omega) rfl (big_gt hn (by omega))
  exact ⟨s', l', c', h', a', b', e, h1, h2, h3, h4.mono (by omega)⟩
theorem third_tot (n : Nat) (hn : BIG ≤ n) (a b : Card) : ∃ t, s_l2Third n a b = some t := by
  obtain ⟨q, rfl⟩ : ∃ q, n = q + 5 := ⟨n - 5, by unfold BIG at hn; omega⟩
  exact ⟨_, rfl⟩
theorem line_tot (n : Nat) (hn : BIG ≤ n) (a b c : Card) : ∃ t, s_l2Line n a b c = some t := by
  unfold s_l2Line
  obtain ⟨t, e⟩ := third_tot n hn a b
  rw [e]
  cases (!eqd a b) <;> exact ⟨_, rfl⟩
noncomputable def lnW (n : Nat) (s : List Card) (i j k : Nat) : Bool := (s_l2Line n (gl (⟨0, 0, 0, 0⟩ : Card) s i) (gl (⟨0, 0, 0, 0⟩ : Card) s j) (gl (⟨0, 0, 0, 0⟩ : Card) s k)).getD false
theorem lnW_eq (n : Nat) (hn : BIG ≤ n) (s : List Card) (i j k : Nat) : s_l2Line n (gl (⟨0, 0, 0, 0⟩ : Card) s i) (gl (⟨0, 0, 0, 0⟩ : Card) s j) (gl (⟨0, 0, 0, 0⟩ : Card) s k) = some (lnW n s i j k) := by
  unfold lnW
  obtain ⟨t, e⟩ := line_tot n hn (gl (⟨0, 0, 0, 0⟩ : Card) s i) (gl (⟨0, 0, 0, 0⟩ : Card) s j) (gl (⟨0, 0, 0, 0⟩ : Card) s k)
  rw [e]; rfl
noncomputable def w1 (n : Nat) (s : List Card) (i j k : Nat) : List (V3 Int) := if lnW n s i j k = true then [⟨i, j, k⟩] else []
noncomputable def w2 (n : Nat) (s : List Card) (i j : Nat) : List (V3 Int) := (List.range' (j + 1) (s.length - (j + 1))).flatMap (w1 n s i j)
noncomputable def w3 (n : Nat) (s : List Card) (i : Nat) : List (V3 Int) := (List.range' (i + 1) (s.length - (i + 1))).flatMap (w2 n s i)
noncomputable def lnsW (n : Nat) (s : List Card) : List (V3 Int) := (List.range' 0 (s.length - 0)).flatMap (w3 n s)
theorem w1_len {n : Nat} {s : List Card} {i j k : Nat} : (w1 n s i j k).length ≤ 1 := by unfold w1; split <;> simp
theorem w2_len {n : Nat} {s : List Card} {i j : Nat} : (w2 n s i j).length ≤ s.length := by
  have := flen (l := List.range' (j + 1) (s.length - (j + 1))) (f := w1 n s i j) (M := 1) fun _ _ => w1_len
  rw [List.length_range', Nat.mul_one] at this
  unfold w2; omega
theorem w3_len {n : Nat} {s : List Card} {i : Nat} : (w3 n s i).length ≤ s.length * s.length := by
  have := flen (l := List.range' (i + 1) (s.length - (i + 1))) (f := w2 n s i) (M := s.length) fun _ _ => w2_len
  unfold w3
  refine Nat.le_trans this (Nat.mul_le_mul_right _ ?_)
  rw [List.length_range']; omega
theorem lnsW_len {n : Nat} {s : List Card} : (lnsW n s).length ≤ s.length * (s.length * s.length) := by
  have := flen (l := List.range' 0 (s.length - 0)) (f := w3 n s) (M := s.length * s.length) fun _ _ => w3_len
  rw [List.length_range', Nat.sub_zero] at this
  unfold lnsW; exact this
theorem s_l4Lines_any {n : Nat} (hn : BIG ≤ n) {s : List Card} (hl : s.length ≤ 90) : s_l4Lines n s = some (lnsW n s) ∧ (lnsW n s).length ≤ 1000000 := by
  have b3 : s.length * (s.length * s.length) ≤ 90 * (90 * 90) := Nat.mul_le_mul hl (Nat.mul_le_mul hl hl)
  have h3 := lnsW_len (n := n) (s := s)
  refine ⟨?_, by omega⟩
  unfold s_l4Lines
  have e : ∀ i : Nat, i < s.length → decide ((i : Int) < (s.length : Int)) = true := fun i h => decide_eq_true (by omega)
  have e' : decide ((s.length : Int) < (s.length : Int)) = false := decide_eq_false (by omega)
  have := fx_app (B := s_l4Lines_L3 n) s.length (fun i a => (s, (i : Int), a)) (w3 n s) some 1000000 (fun self i a hi hM => ?_) (fun self a => by simp only [s_l4Lines_L3, e', br_false]) n 0 [] (Nat.zero_le _) (big_gt hn (by omega)) (by unfold lnsW at h3; simp only [List.length_nil]; omega)
  · simpa [lnsW] using this
  · simp only [s_l4Lines_L3, e i hi, br_true, lt_eq]
    rw [w64_succ (by omega)]
    have := fx_app (B := s_l4Lines_L2 n self) s.length (fun j a => (s, (i : Int), (j : Int), a)) (w2 n s i) (fun a => self (s, ((i + 1 : Nat) : Int), a)) 1000000 (fun self2 j a hj hM2 => ?_) (fun self2 a => by
      simp only [s_l4Lines_L2, e', br_false, lt_eq]; rw [w64_succ (by omega)]) n (i + 1) a (by omega) (big_gt hn (by omega)) (by unfold w3 at hM; exact hM)
    · exact this
    · simp only [s_l4Lines_L2, e j hj, br_true, lt_eq]
      rw [w64_succ (by omega)]
      have := fx_app (B := s_l4Lines_L1 n self2) s.length (fun k a => (s, (i : Int), (j : Int), (k : Int), a)) (w1 n s i j) (fun a => self2 (s, (i : Int), ((j + 1 : Nat) : Int), a)) 1000000 (fun self3 k a hk hM3 => ?_) (fun self3 a => by
        simp only [s_l4Lines_L1, e', br_false, lt_eq]; rw [w64_succ (by omega)]) n (j + 1) a (by omega) (big_gt hn (by omega)) (by unfold w2 at hM2; exact hM2)
      · exact this
      · simp only [s_l4Lines_L1, e k hk, br_true, inb_ok hi, inb_ok hj, inb_ok hk, ckb_true, toNat_cast, lt_eq]
        have hln := lnW_eq n hn s i j k
        rw [hln, w64_succ (by omega)]
        unfold w1 at hM3 ⊢
        cases hb : lnW n s i j k with
        | false => simp
        | true =>
          rw [hb, if_pos rfl, List.length_singleton] at hM3
          rw [ob_some, br_true, ckb_pos (apok_ok (by omega) (by omega)), if_pos rfl]
theorem lineOf_J1 {n : Nat} {m : Nat} {c : Cu} (hc : CuOK m c) (hm : m + 50 < 4611686018427300000) (b : Bool) (z : V3 Int) {L : List (V3 Int)} (hL : L.length ≤ 1000000) (h0 : b = true → 0 < L.length) : ∃ t c', s_Cur_lineOf'pl_J1 n (b, c, z, L) = some (t, c') ∧ CuOK (m + 10) c' := by
  unfold s_Cur_lineOf'pl_J1
  simp only []
  cases b with
  | true =>
    have h0 := h0 rfl
    rw [br_true]
    obtain ⟨r, c2, e2, k2, r0, r1⟩ := pick_ok n hc (by omega) (a := (L.length : Int)) (by omega)
    rw [e2, ob_some, ckb_pos (inb_pos r0 r1)]
    exact ⟨_, _, rfl, k2.mono (by omega)⟩
  | false =>
    rw [br_false]
    obtain ⟨q, c1, e1, k1, q0, q1⟩ := pick_ok n hc (by omega) (a := 10) (by omega)
    rw [e1, ob_some]
    obtain ⟨r, c2, e2, k2, r0, r1⟩ := pick_ok n k1 (by omega) (a := 3) (by omega)
    rw [e2, ob_some]
    simp only [lt_eq]
    obtain ⟨s, c3, e3, k3, s0, s1⟩ := pick_ok n k2 (by omega) (a := 3) (by omega)
    rw [e3, ob_some]
    obtain ⟨t, c4, e4, k4, t0, t1⟩ := pick_ok n k3 (by omega) (a := 24) (by omega)
    rw [e4, ob_some]
    exact ⟨_, _, rfl, k4.mono (by omega)⟩
theorem lineOf_ok {n : Nat} (hn : BIG ≤ n) {m : Nat} {c : Cu} (hc : CuOK m c) (hm : m + 60 < 4611686018427300000) (d : Deal) (hl : d.2.2.length ≤ 90) : ∃ t c', s_Cur_lineOf'pl n d c = some (t, c') ∧ CuOK (m + 20) c' := by
  unfold s_Cur_lineOf'pl
  obtain ⟨e1, h1⟩ := s_l4Lines_any hn hl
  obtain ⟨b, e2, _, _⟩ := isDeal_eq hn d (by omega)
  rw [e1, ob_some, e2, ob_some]
  have J : ∀ b : Bool, (b = true → 0 < (lnsW n d.2.2).length) → ∃ t c', s_Cur_lineOf'pl_J2 n (b, c, ⟨0, 0, 0⟩, lnsW n d.2.2) = some (t, c') ∧ CuOK (m + 20) c' := fun b hb => by
    unfold s_Cur_lineOf'pl_J2
    simp only []
    cases b with
    | false =>
      rw [br_false]
      obtain ⟨t, c', e, k⟩ := lineOf_J1 (n := n) hc (by omega) false ⟨0, 0, 0⟩ h1 (fun h => by cases h)
      exact ⟨t, c', e, k.mono (by omega)⟩
    | true =>
      rw [br_true]
      obtain ⟨w, c1, e1, k1⟩ := one_ok n hc (by omega) (a := 4) (by omega)
      rw [e1, ob_some]
      obtain ⟨t, c', e, k⟩ := lineOf_J1 (n := n) k1 (by omega) (!w) ⟨0, 0, 0⟩ h1 (fun _ => hb rfl)
      exact ⟨t, c', e, k.mono (by omega)⟩
  cases b with
  | true => rw [br_true]; exact J _ (fun h => by have := of_decide_eq_true h; omega)
  | false => rw [br_false]; exact J _ (fun h => by cases h)
theorem s_l1Most_eq (n : Nat) (a b : Int) : ∃ r, s_l1Most n a b = some r ∧ (b ≤ r) ∧ (a ≤ r) ∧ (r = a ∨ r = b) := by
  unfold s_l1Most
  rw [br_dec]
  split
  · exact ⟨_, rfl, by omega, by omega, by omega⟩
  · exact ⟨_, rfl, by omega, by omega, by omega⟩
theorem claim_ok {n : Nat} (hn : BIG ≤ n) {m : Nat} {c : Cu} (hc : CuOK m c) (hm : m + 100 < 4611686018427300000) (g : Game) (hl : g.1.2.2.length ≤ 90) : ∃ t c', s_Cur_claim'pl n g c = some (t, c') ∧ CuOK (m + 40) c' := by
  unfold s_Cur_claim'pl
  obtain ⟨r, e0, r1, _⟩ := s_l1Most_eq n (g.2.1.length : Int) 1
  rw [e0, ob_some]
  obtain ⟨q, c1, e1, k1, q0, q1⟩ := pick_ok n hc (by omega) (a := r) r1
  rw [e1, ob_some]
  obtain ⟨s, c2, e2, k2, s0, s1⟩ := pick_ok n k1 (by omega) (a := 24) (by omega)
  rw [e2, ob_some]
  simp only [lt_eq]
  obtain ⟨t, c3, e3, k3, t0, t1⟩ := pick_ok n k2 (by omega) (a := 24) (by omega)
  rw [e3, ob_some]
  obtain ⟨u, c4, e4, k4⟩ := lineOf_ok hn k3 (by omega) g.1 hl
  rw [e4, ob_some]
  exact ⟨_, _, rfl, k4.mono (by omega)⟩
end Go.Pl
namespace Go.Pl
open Go Go.Tv Go.RowKit
set_option linter.unusedVariables false
set_option linter.unusedSimpArgs false
theorem okFrom_of {p h : List Card} (hnd : h.Nodup) (hm : ∀ c, c ∈ h → c ∈ p) : okFrom p h 0 = true := by
  unfold okFrom
  rw [List.all_eq_true]
  intro k hk
  rw [List.mem_range'_1] at hk
  have hk : k < h.length := by omega
  unfold okAt
  rw [gl_eq hk, List.contains_iff_mem.2 (hm _ (List.getElem_mem hk)), Bool.true_and, Bool.not_eq_true']
  cases hc : (h.take k).contains h[k] with
  | false => rfl
  | true =>
    have := List.contains_iff_mem.1 hc
    rw [List.mem_take_iff_getElem] at this
    obtain ⟨i, hi, e⟩ := this
    exact absurd e ((List.pairwise_iff_getElem.1 hnd) i k (by omega) hk (by omega))
theorem isDeal_true {n : Nat} (hn : BIG ≤ n) {p : List Card} {d : Deal} (P : Piles n d.1 p) (D : DealOK p d) : i_IsDeal n d = some true ∧ s_l4Deal n d = some true := by
  obtain ⟨hp81, _, _⟩ := pile_facts P.perm
  have hs := D.seed
  have hl := D.laid
  have hle := len_le D.nodup D.mem
  rw [List.length_take] at hle
  have h81 : d.2.2.length ≤ 81 := by omega
  have hb : dealB p d = true := okFrom_of D.nodup D.mem
  have sl : slb 0 d.2.1 p.length = true := slb_ok (by omega) (by omega) (by omega)
  have ew : (w64 (d.2.1 - 0)).toNat = d.2.1.toNat := by rw [w64_id (by omega), Int.sub_zero]
  constructor
  · unfold i_IsDeal i_isSeed
    simp only [i_within_eq, ob_some, hs, hl, and_self, decide_true, Bool.not_true, br_false, P.ii]
    rw [show decide (d.2.1 < (d.2.2.length : Int)) = false from decide_eq_false (by omega), br_false, sl, ckb_true, ew, i_dealL hn hp81 hl (by omega), hb]
  · unfold s_l4Deal s_l4Seed
    simp only [s_l1In_eq, ob_some, hs, hl, and_self, decide_true, Bool.not_true, br_false, P.ss]
    rw [show decide ((81 : Int) < (d.2.2.length : Int)) = false from decide_eq_false (by omega), br_false, sl, ckb_true, ew, s_dealL hn hp81 hl (by omega), hb]
theorem isGame_true {n : Nat} (hn : BIG ≤ n) {p : List Card} {g : Game} (P : Piles n g.1.1 p) (G : GameOK p g) : i_IsGame n g = some true := by
  have n1 := G.n1
  have n4 := G.n4
  have eq := G.eq
  have a1 : g.2.1.all w60 = true := List.all_eq_true.2 fun x hx => decide_eq_true (G.sc x hx)
  have a2 : g.2.2.all w60 = true := List.all_eq_true.2 fun x hx => decide_eq_true (G.mi x hx)
  unfold i_IsGame
  rw [(isDeal_true hn P G.deal).1]
  simp only [ob_some, i_within_eq, allWithin_eq hn (show g.2.1.length ≤ 1099511627776 by omega), allWithin_eq hn (show g.2.2.length ≤ 1099511627776 by omega), br_some, a1, a2]
  rw [decide_eq_true (show (1 : Int) ≤ (g.2.1.length : Int) ∧ (g.2.1.length : Int) ≤ 4 by omega), decide_eq_true (show (g.2.2.length : Int) = (g.2.1.length : Int) by omega)]
  rfl
theorem MC_eq {n : Nat} (hn : BIG ≤ n) (g : Game) (c : Claim) (h : Len g 1048576) :
    ∃ (k : Int) (b : Bool) (q : Game), s_MakeClaim n g c = some (q.1.1, q.1.2.1, k, b, q.1.2.2, q.2.1, q.2.2) ∧ i_MakeClaim n g c = some (q.1.1, q.1.2.1, k, b, q.1.2.2, q.2.1, q.2.2) ∧ Len q 1048576 ∧ i_IsGame n g = some b ∧
      (b = true → ∃ p, Piles n g.1.1 p ∧ GameOK p g ∧ k = (madeG p n g c).1 ∧ q = (madeG p n g c).2) := by
  obtain ⟨h1, h2, h3⟩ := h
  obtain ⟨b, e1, e2, hb⟩ := isGame_eq hn g (by omega) (by omega) (by omega)
  unfold s_MakeClaim i_MakeClaim
  rw [e1, e2, ob_some, ob_some]
  cases b with
  | false => exact ⟨0, false, ((0, (0, [])), ([], [])), rfl, rfl, ⟨by decide, by decide, by decide⟩, rfl, fun h => by cases h⟩
  | true =>
    obtain ⟨p, hP, hG⟩ := hb rfl
    have hm := madeG_ok hP.perm (n := n) hG c
    obtain ⟨h81, _, _⟩ := pile_facts hP.perm
    refine ⟨(madeG p n g c).1, true, (madeG p n g c).2, ?_, ?_, hm.lens h81, rfl, fun _ => ⟨p, hP, hG, rfl, rfl⟩⟩
    · rw [Bool.not_true, br_false, s_l8Made_eq hn hP hG c, ob_some]; rfl
    · rw [Bool.not_true, br_false, i_own_eq h1 h2 h3, ob_some, i_make_eq hn hP hG c, ob_some]; rfl
theorem addK_x1 : ∀ (ks : List Int) (v : V4 Int), (∀ k ∈ ks, k = 1 ∨ k = 2 ∨ k = 3) → 0 ≤ v.x1 → v.x1 + ks.length ≤ 1000 → (ks.foldl addK v).x1 = v.x1 + (ks.countP fun k => decide (k = 1))
  | [], v, _, _, _ => by simp
  | k :: ks, v, hk, h0, h1 => by
    rw [List.foldl_cons]
    rw [List.length_cons] at h1
    have hkk := hk k (List.mem_cons_self ..)
    have e : (addK v k).x1 = if k = 1 then v.x1 + 1 else v.x1 := by
      unfold addK
      rcases hkk with rfl | rfl | rfl
      · simp only [V4.set, V4.get, show (1 : Int).toNat = 1 from rfl, if_true]
        rw [w64_id (by omega)]
      · rfl
      · rfl
    rw [addK_x1 ks _ (fun k hk' => hk k (List.mem_cons_of_mem _ hk')) (by rw [e]; split <;> omega) (by rw [e]; split <;> omega), e, List.countP_cons]
    by_cases h : k = 1
    · simp [h]; omega
    · simp [h]
theorem Run2 {n : Nat} (hn : BIG ≤ n) (g : Game) (l : List Claim) (h : Len g 1048576) (hl : l.length ≤ 1048576) :
    ∃ r f, s_RunClaims n g l = some r ∧ i_RunClaims n g l = some r ∧ s_FirstRight n g l = some f ∧ i_FirstRight n g l = some f ∧ RunP n g l r ∧ f.2 = (r.2.2.2.1 && decide (0 < r.2.2.1.x1)) := by
  obtain ⟨r, a1, a2, a3⟩ := RunClaims_eq hn g l h hl
  obtain ⟨f, b1, b2⟩ := FirstRight_eq hn g l h hl
  obtain ⟨h1, h2, h3⟩ := h
  refine ⟨r, f, a1, a2, b1, b2, a3, ?_⟩
  obtain ⟨b, e1, e2, hb⟩ := isGame_eq hn g (by omega) (by omega) (by omega)
  have a1' := a1
  have b1' := b1
  unfold s_RunClaims at a1'
  unfold s_FirstRight at b1'
  rw [e1] at a1' b1'
  simp only [ob_some, br_some, lt_eq] at a1' b1'
  by_cases hok : b = true ∧ l.length ≤ 60
  · obtain ⟨hbt, h60⟩ := hok
    subst hbt
    obtain ⟨p, hP, hG⟩ := hb rfl
    have s1 := s_runC_go hn l [] g ⟨0, 0, 0, 0⟩ hP hG (by simp; omega) n (big_gt hn (by omega))
    have s2 := s_first_go hn l [] g hP hG (by simp; omega) n (big_gt hn (by omega))
    simp only [List.nil_append, List.length_nil] at s1 s2
    rw [decide_eq_false (show ¬ (60 : Int) < (l.length : Int) by omega), Bool.not_true, if_neg (by decide), br_false, s_l8Own_eq h1 h2 h3, ob_some] at a1'
    rw [decide_eq_false (show ¬ (60 : Int) < (l.length : Int) by omega), Bool.not_true, if_neg (by decide), br_false] at b1'
    have er : r = runOut (lastG p n g l) ((kinds p n g l).foldl addK ⟨0, 0, 0, 0⟩) := Option.some.inj (a1'.symm.trans s1)
    have ef : f = (match firstK p n g l 0 with | some i => ((i : Int), true) | none => (0, false)) := Option.some.inj (b1'.symm.trans s2)
    rw [er, ef]
    show _ = (true && decide (0 < ((kinds p n g l).foldl addK ⟨0, 0, 0, 0⟩).x1))
    have hkl := kinds_len p n l g
    rw [addK_x1 _ _ (kinds_mem p n l g) (Int.le_refl _) (by simp only []; omega), firstK_eq, Bool.true_and]
    have : ((kinds p n g l).findIdx? fun x => decide (x = 1)).isSome = decide ((0 : Int) < 0 + ((kinds p n g l).countP fun k => decide (k = 1) : Nat)) := by
      rw [findIdx?_any]
      cases ha : (kinds p n g l).any fun x => decide (x = 1) with
      | true =>
        obtain ⟨x, hx, hd⟩ := List.any_eq_true.1 ha
        have := (List.countP_pos_iff (p := fun k : Int => decide (k = 1))).2 ⟨x, hx, hd⟩
        exact (decide_eq_true (by omega)).symm
      | false =>
        have : (kinds p n g l).countP (fun k => decide (k = 1)) = 0 := List.countP_eq_zero.2 fun x hx hd => by
          have := (List.any_eq_true (p := fun x : Int => decide (x = 1))).2 ⟨x, hx, hd⟩
          rw [ha] at this; cases this
        rw [this]; rfl
    rw [← this]
    cases (kinds p n g l).findIdx? fun x => decide (x = 1) <;> rfl
  · have hcond : (if (!b) = true then true else decide ((60 : Int) < (l.length : Int))) = true := by
      cases b with
      | false => rfl
      | true =>
        have : ¬ l.length ≤ 60 := fun h => hok ⟨rfl, h⟩
        rw [if_neg (by decide)]
        exact decide_eq_true (by omega)
    rw [hcond, br_true] at a1' b1'
    have er := Option.some.inj a1'
    have ef := Option.some.inj b1'
    rw [← er, ← ef]; rfl
theorem v_rInts_eq5 {n : Nat} (hn : BIG ≤ n) {a b : List Int} (hl : a.length ≤ 9223372036854775806) : v_rInts n a b = some (decide (a = b)) := v_eqIntS_eq hn hl
theorem v_rHand_eq5 {n : Nat} (hn : BIG ≤ n) {a b : List Card} (hl : a.length ≤ 9223372036854775806) : v_rHand n a b = some (decide (a = b)) := v_vHands_eq hn hl
theorem v_rGame_self {n : Nat} (hn : BIG ≤ n) {q : Game} (h : Len q 1048576) : v_rGame n q q = some true := by
  obtain ⟨h1, h2, h3⟩ := h
  unfold v_rGame v_rDeal
  rw [v_rHand_eq5 hn (by omega), v_rInts_eq5 hn (by omega), v_rInts_eq5 hn (by omega)]
  simp
theorem rsum_1 {n : Nat} (hn : BIG ≤ n) (go : List Card × Int × Deal × Card × Card → Opt Card) (p : List Card) (d : Deal) (z : Card) {i : Nat} (hi : i < d.2.2.length) (h81 : d.2.2.length ≤ 1000) {a : Card} (hc : isC d.2.2[i] = true) (ha : isC a = true) :
    fx (v_rSum_L1 n go) n (p, (i : Int), 0, d, z, a) = go (p, ((i + 1 : Nat) : Int), d, z, ⟨(a.x0 + d.2.2[i].x0) % 3, (a.x1 + d.2.2[i].x1) % 3, (a.x2 + d.2.2[i].x2) % 3, (a.x3 + d.2.2[i].x3) % 3⟩) := by
  obtain ⟨m, rfl⟩ : ∃ m, n = m + 5 := ⟨n - 5, by unfold BIG at hn; omega⟩
  rw [isC_iff] at hc ha
  have hb := inb_ok hi
  have g : gl (⟨0, 0, 0, 0⟩ : Card) d.2.2 i = d.2.2[i] := gl_eq hi
  generalize d.2.2[i] = c at *
  simp only [lt_eq, fx_succ, v_rSum_L1]
  simp [V4.get, V4.set, hb, g, show inb 0 4 = true from rfl, show inb 1 4 = true from rfl, show inb 2 4 = true from rfl, show inb 3 4 = true from rfl, show w64 1 = 1 from by decide, show w64 (1 + 1) = 2 from by decide, show w64 (2 + 1) = 3 from by decide, show w64 (3 + 1) = 4 from by decide]
  rw [w64_id (x := a.x0 + c.x0) (by omega), w64_id (x := a.x1 + c.x1) (by omega), w64_id (x := a.x2 + c.x2) (by omega), w64_id (x := a.x3 + c.x3) (by omega), w64_id (x := (i : Int) + 1) (by omega), Int.tmod_eq_emod_of_nonneg (by omega), Int.tmod_eq_emod_of_nonneg (by omega), Int.tmod_eq_emod_of_nonneg (by omega), Int.tmod_eq_emod_of_nonneg (by omega)]
theorem rsum_2 {n : Nat} (hn : BIG ≤ n) (go : List Card × Int × Card × Card → Opt Card) (p : List Card) (z : Card) {i : Nat} (hi : i < p.length) (h81 : p.length ≤ 1000) {a : Card} (hc : isC p[i] = true) (ha : isC a = true) :
    fx (v_rSum_L2 n go) n (p, (i : Int), 0, z, a) = go (p, ((i + 1 : Nat) : Int), z, ⟨(a.x0 + p[i].x0) % 3, (a.x1 + p[i].x1) % 3, (a.x2 + p[i].x2) % 3, (a.x3 + p[i].x3) % 3⟩) := by
  obtain ⟨m, rfl⟩ : ∃ m, n = m + 5 := ⟨n - 5, by unfold BIG at hn; omega⟩
  rw [isC_iff] at hc ha
  have hb := inb_ok hi
  have g : gl (⟨0, 0, 0, 0⟩ : Card) p i = p[i] := gl_eq hi
  generalize p[i] = c at *
  simp only [lt_eq, fx_succ, v_rSum_L2]
  simp [V4.get, V4.set, hb, g, show inb 0 4 = true from rfl, show inb 1 4 = true from rfl, show inb 2 4 = true from rfl, show inb 3 4 = true from rfl, show w64 1 = 1 from by decide, show w64 (1 + 1) = 2 from by decide, show w64 (2 + 1) = 3 from by decide, show w64 (3 + 1) = 4 from by decide]
  rw [w64_id (x := a.x0 + c.x0) (by omega), w64_id (x := a.x1 + c.x1) (by omega), w64_id (x := a.x2 + c.x2) (by omega), w64_id (x := a.x3 + c.x3) (by omega), w64_id (x := (i : Int) + 1) (by omega), Int.tmod_eq_emod_of_nonneg (by omega), Int.tmod_eq_emod_of_nonneg (by omega), Int.tmod_eq_emod_of_nonneg (by omega), Int.tmod_eq_emod_of_nonneg (by omega)]
def TS (p : List Card) (d : Deal) : Card := sumC (d.2.2 ++ p.drop d.2.1.toNat)
theorem v_rSum_eq {n : Nat} (hn : BIG ≤ n) {p : List Card} (hp : p.Perm deck) {d : Deal} (D : DealOK p d) : v_rSum n d p = some (TS p d) := by
  obtain ⟨h81, _, hc⟩ := pile_facts hp
  have hl := D.laid
  have hlen := D.len h81
  have hd := D.isC hp
  unfold v_rSum
  rw [lt_eq]
  have L4 := fx_cnt (B := v_rSum_L4 n) d.2.2.length (fun i => (p, (i : Int), d, (⟨0, 0, 0, 0⟩ : Card), sumC (d.2.2.take i))) (fun _ => True) (fun _ => fx (v_rSum_L3 n) n (p, d.2.1, ⟨0, 0, 0, 0⟩, sumC d.2.2)) (fun self i hi _ ih => by
    simp only [v_rSum_L4]
    by_cases h1 : i < d.2.2.length
    · have ih := ih h1 trivial
      rw [take_snoc h1, sumC_snoc] at ih
      rw [br_pos (decide_eq_true (show (i : Int) < (d.2.2.length : Int) by omega)), rsum_1 hn self p d _ h1 (by omega) (hd _ (List.getElem_mem h1)) (sumC_isC _)]
      exact ih
    · have : i = d.2.2.length := by omega
      subst this
      rw [br_neg (decide_eq_false (by omega)), List.take_length]) n 0 (Nat.zero_le _) trivial (big_gt hn (by omega))
  have L4 : fx (v_rSum_L4 n) n (p, 0, d, ⟨0, 0, 0, 0⟩, ⟨0, 0, 0, 0⟩) = fx (v_rSum_L3 n) n (p, d.2.1, ⟨0, 0, 0, 0⟩, sumC d.2.2) := L4
  rw [L4]
  have L3 := fx_cnt (B := v_rSum_L3 n) 81 (fun i => (p, (i : Int), (⟨0, 0, 0, 0⟩ : Card), sumC (d.2.2 ++ (p.take i).drop d.2.1.toNat))) (fun i => d.2.1.toNat ≤ i) (fun _ => some (TS p d)) (fun self i hi hI ih => by
    simp only [v_rSum_L3]
    by_cases h1 : i < 81
    · have ih := ih h1 (by omega)
      have hip : i < p.length := by omega
      rw [take_snoc hip, List.drop_append_of_le_length (by rw [List.length_take]; omega), ← List.append_assoc, sumC_snoc] at ih
      rw [br_pos (decide_eq_true (show (i : Int) < (p.length : Int) by omega)), rsum_2 hn self p _ hip (by omega) (hc _ (List.getElem_mem hip)) (sumC_isC _)]
      exact ih
    · have : i = 81 := by omega
      subst this
      rw [br_neg (decide_eq_false (by omega)), show (81 : Nat) = p.length from h81.symm, List.take_length]; rfl) n d.2.1.toNat (by omega) (Nat.le_refl _) (big_gt hn (by omega))
  have e0 : (p.take d.2.1.toNat).drop d.2.1.toNat = [] := List.drop_eq_nil_of_le (by rw [List.length_take]; omega)
  have e1 : ((d.2.1.toNat : Nat) : Int) = d.2.1 := by omega
  rw [e0, List.append_nil] at L3
  simp only [e1] at L3
  exact L3
theorem TS_lay {p : List Card} (h81 : p.length = 81) {d : Deal} (hl : 0 ≤ d.2.1 ∧ d.2.1 ≤ 81) {k : Int} (hk : 0 ≤ k) : TS p (layD p d k) = TS p d := by
  unfold TS layD
  simp only []
  congr 1
  rw [List.append_assoc]
  congr 1
  generalize hr : (if 81 < d.2.1 + k then 81 else d.2.1 + k) = r
  have hr2 : d.2.1 ≤ r ∧ r ≤ 81 := by rw [← hr]; split <;> omega
  unfold sub
  have : p.drop r.toNat = (p.drop d.2.1.toNat).drop (r.toNat - d.2.1.toNat) := by rw [List.drop_drop]; congr 1; omega
  rw [this, List.take_append_drop]
theorem TS_rest {p : List Card} {d : Deal} (hc : ∀ c ∈ d.2.2, isC c = true) {t : V3 Int} (h1 : place3 d.2.2.length t = true) (h2 : line3 d.2.2 t = true) : TS p (restD d t) = TS p d := by
  have hp := place3_iff.1 h1
  obtain ⟨a, b, c⟩ := t
  obtain ⟨i, rfl⟩ : ∃ i : Nat, a = i := ⟨a.toNat, by simp only [] at hp; omega⟩
  obtain ⟨j, rfl⟩ : ∃ j : Nat, b = j := ⟨b.toNat, by simp only [] at hp; omega⟩
  obtain ⟨k, rfl⟩ : ∃ k : Nat, c = k := ⟨c.toNat, by simp only [] at hp; omega⟩
  simp only [] at hp
  have hij : i < j := by omega
  have hjk : j < k := by omega
  have hk : k < d.2.2.length := by omega
  have hi : i < d.2.2.length := by omega
  have hj : j < d.2.2.length := by omega
  unfold line3 lineB at h2
  simp only [toNat_cast] at h2
  rw [Bool.and_eq_true, decide_eq_true_iff] at h2
  have h3 : third (gz d.2.2 i) (gz d.2.2 j) = gz d.2.2 k := h2.2
  have ca : isC (gz d.2.2 i) = true := by unfold gz; rw [gl_eq hi]; exact hc _ (List.getElem_mem hi)
  have cb : isC (gz d.2.2 j) = true := by unfold gz; rw [gl_eq hj]; exact hc _ (List.getElem_mem hj)
  have s : ∀ q, sm (cx q) (rest d.2.2 ⟨(i : Int), (j : Int), (k : Int)⟩) = sm (cx q) d.2.2 - cx q (gz d.2.2 i) - cx q (gz d.2.2 j) - cx q (gz d.2.2 k) := fun q => rest_sum (cx q) hij hjk hk
  have t3m : ∀ x y : Int, 0 ≤ x ∧ x ≤ 2 → 0 ≤ y ∧ y ≤ 2 → (x + y + t3 x y) % 3 = 0 := fun x y hx hy => by
    unfold t3
    rw [Int.tmod_eq_emod_of_nonneg (by omega)]; omega
  rw [isC_iff] at ca cb
  have z : ∀ q, q < 4 → (cx q (gz d.2.2 i) + cx q (gz d.2.2 j) + cx q (gz d.2.2 k)) % 3 = 0 := fun q hq => by
    rw [← h3]
    rcases (show q = 0 ∨ q = 1 ∨ q = 2 ∨ q = 3 by omega) with rfl | rfl | rfl | rfl
    · exact t3m _ _ ca.1 cb.1
    · exact t3m _ _ ca.2.1 cb.2.1
    · exact t3m _ _ ca.2.2.1 cb.2.2.1
    · exact t3m _ _ ca.2.2.2 cb.2.2.2
  have z0 := z 0 (by omega)
  have z1 := z 1 (by omega)
  have z2 := z 2 (by omega)
  have z3 := z 3 (by omega)
  have s0 := s 0
  have s1 := s 1
  have s2 := s 2
  have s3 := s 3
  unfold TS restD sumC
  simp only [sm_app]
  rw [s0, s1, s2, s3]
  congr 1 <;> omega
theorem TS_layN {p : List Card} (hp : p.Perm deck) : ∀ (k : Nat) {d : Deal}, DealOK p d → TS p (layN p k d) = TS p d
  | 0, d, h => rfl
  | k + 1, d, h => by
    unfold layN
    split
    · rw [TS_layN hp k (layD_ok h hp (by omega)), TS_lay (pile_facts hp).1 h.laid (by omega)]
    · rfl
theorem kind_one {g : Game} {c : Claim} (h : kindG g c = 1) : place3 g.1.2.2.length c.2 = true ∧ line3 g.1.2.2 c.2 = true := by
  unfold kindG at h
  split at h
  · split at h
    · rename_i h1
      split at h
      · rename_i h2; exact ⟨h1, h2⟩
      · omega
    · omega
  · omega
theorem TS_made {n : Nat} {p : List Card} (hp : p.Perm deck) {g : Game} (h : GameOK p g) (c : Claim) : TS p (madeG p n g c).2.1 = TS p g.1 := by
  have e := TS_layN hp n h.deal
  have hN := layN_ok hp n h.deal
  unfold madeG endG
  split
  · rename_i hk
    obtain ⟨k1, k2⟩ := kind_one hk
    show TS p (takeD p (layN p n g.1) c.2) = _
    unfold takeD
    rw [TS_lay (pile_facts hp).1 (restD_ok hN c.2).laid (by split <;> omega)]
    rw [TS_rest (hN.isC hp) k1 k2, e]
  · split
    · exact e
    · exact e
end Go.Pl

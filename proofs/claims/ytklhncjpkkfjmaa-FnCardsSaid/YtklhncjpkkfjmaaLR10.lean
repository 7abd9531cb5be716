/- Plain laws: R10. -/
import Derived.Test.YtklhncjpkkfjmaaLLC
set_option linter.unusedVariables false
set_option linter.unusedSimpArgs false
namespace Go.Pl
open Go Go.Tv Go.RowKit
set_option linter.unusedVariables false
set_option linter.unusedSimpArgs false

theorem ok_bytes {a : List Int} (h : (Ty.sl (.int .u8)).ok a) : ∀ x, x ∈ a → 0 ≤ x ∧ x ≤ 255 := fun x hx => bounds_u8 (h.2 x hx)
theorem v_rBig_eq (n : Nat) (a : List Int) : v_rBig n a = some (decide (65536 < (a.length : Int))) := rfl
theorem br_dec_if {β : Type} (c : Bool) (x y : Opt β) : br c x y = if c = true then x else y := by cases c <;> rfl
theorem eqd_self {t : Type} [DecidableEq t] (x : t) : eqd x x = true := by simp [eqd]

theorem DrawThirdCard_ok (n : Nat) {a : List Int} (h : ∀ x, x ∈ a → 0 ≤ x ∧ x ≤ 255) : ∃ r, s_DrawThirdCard n a = some r := by
  unfold s_DrawThirdCard
  obtain ⟨x, c1, e1, h1⟩ := card_ok n (cu0 h) (by omega)
  rw [lt_eq, e1, ob_some]
  obtain ⟨y, c2, e2, h2⟩ := near_ok n x h1 (by omega)
  rw [e2, ob_some]
  exact ⟨_, rfl⟩
theorem DrawIsLine_ok {n : Nat} (hn : BIG ≤ n) {a : List Int} (h : ∀ x, x ∈ a → 0 ≤ x ∧ x ≤ 255) : ∃ r, s_DrawIsLine n a = some r := by
  unfold s_DrawIsLine
  obtain ⟨b, c0, e0, h0⟩ := one_ok n (cu0 h) (by omega) (a := 3) (by omega)
  rw [lt_eq, e0, ob_some]
  obtain ⟨x, c1, e1, h1⟩ := card_ok n h0 (by omega)
  rw [e1, ob_some]
  obtain ⟨y, c2, e2, h2⟩ := near_ok n x h1 (by omega)
  rw [e2, ob_some]
  obtain ⟨z, c3, e3, h3⟩ := near_ok n y h2 (by omega)
  simp only [s_l2Card_eq hn, ob_some, br_some]
  by_cases hxy : isC x = true ∧ isC y = true
  · cases b <;> simp only [hxy.1, hxy.2, Bool.not_true, Bool.not_false, if_true, if_false, br_true, br_false, ob_some, e3, s_l2Third_eq hn hxy.1 hxy.2, Bool.false_eq_true] <;> exact ⟨_, rfl⟩
  · have : (if (if (!b) = true then isC x else false) = true then isC y else false) = false := by
      cases hx : isC x <;> cases hy : isC y <;> cases b <;> simp_all
    rw [this, br_false, e3]
    exact ⟨_, rfl⟩
theorem DrawCardAt_ok (n : Nat) {a : List Int} (h : ∀ x, x ∈ a → 0 ≤ x ∧ x ≤ 255) : ∃ r, s_DrawCardAt n a = some r := by
  unfold s_DrawCardAt
  obtain ⟨x, c1, e1, h1, _⟩ := pick_ok n (cu0 h) (by omega) (a := 81) (by omega)
  rw [lt_eq, e1, ob_some]
  obtain ⟨y, c2, e2, h2, _⟩ := among_ok n h1 (by omega) (l := [0, 0, 0, 0, 80, (-80)]) (by decide)
  rw [e2, ob_some]
  exact ⟨_, rfl⟩

/-! third cards -/
theorem in012 {x : Int} (h : 0 ≤ x ∧ x ≤ 2) : x = 0 ∨ x = 1 ∨ x = 2 := by omega
theorem t3_comm {x y : Int} : t3 x y = t3 y x := by unfold t3; congr 1; omega
theorem t3_back {x y : Int} (hx : 0 ≤ x ∧ x ≤ 2) (hy : 0 ≤ y ∧ y ≤ 2) : t3 x (t3 x y) = y := by
  rcases in012 hx with rfl | rfl | rfl <;> rcases in012 hy with rfl | rfl | rfl <;> decide
theorem t3_sum {x y z : Int} (hx : 0 ≤ x ∧ x ≤ 2) (hy : 0 ≤ y ∧ y ≤ 2) (hz : 0 ≤ z ∧ z ≤ 2) : decide (Int.tmod (x + y + z) 3 = 0) = decide (t3 x y = z) := by
  rcases in012 hx with rfl | rfl | rfl <;> rcases in012 hy with rfl | rfl | rfl <;> rcases in012 hz with rfl | rfl | rfl <;> decide
theorem third_comm (a b : Card) : third a b = third b a := by unfold third; rw [t3_comm (x := a.x0), t3_comm (x := a.x1), t3_comm (x := a.x2), t3_comm (x := a.x3)]
theorem third_back {a b : Card} (ha : isC a = true) (hb : isC b = true) : third a (third a b) = b := by
  rw [isC_iff] at ha hb
  unfold third
  simp only []
  rw [t3_back ha.1 hb.1, t3_back ha.2.1 hb.2.1, t3_back ha.2.2.1 hb.2.2.1, t3_back ha.2.2.2 hb.2.2.2]
theorem third_self {a : Card} (ha : isC a = true) : third a a = a := by
  rw [isC_iff] at ha
  have e : ∀ x : Int, 0 ≤ x ∧ x ≤ 2 → t3 x x = x := fun x h => by rcases in012 h with rfl | rfl | rfl <;> decide
  unfold third
  rw [e _ ha.1, e _ ha.2.1, e _ ha.2.2.1, e _ ha.2.2.2]
theorem third_ne {a b : Card} (ha : isC a = true) (hb : isC b = true) (h : a ≠ b) : third a b ≠ a := fun e => by
  have := third_back ha hb
  rw [e, third_self ha] at this
  exact h this
theorem third_ne2 {a b : Card} (ha : isC a = true) (hb : isC b = true) (h : a ≠ b) : third a b ≠ b := by
  rw [third_comm]; exact third_ne hb ha (Ne.symm h)

theorem K3_snd (p q r : Card) : (K3 p q r).2 = if (I3 p q r).2 = true then (I3 p q r).1 else false := by
  unfold K3 I3; cases isC p <;> cases isC q <;> cases isC r <;> cases lineB p q r <;> rfl
theorem D2_snd (a b : Card) : (D2 a b).2 = if isC a = true then isC b else false := by
  unfold D2; cases isC a <;> cases isC b <;> rfl
theorem T3_snd (a b : Card) : (T3 a b).2 = if (D2 a b).2 = true then decide (0 < (D2 a b).1) else false := by
  unfold T3 D2
  cases isC a <;> cases isC b <;> try rfl
  simp only [Bool.and_self, if_true, Bool.true_and, dif_pos]
  cases hd : decide (a = b) <;> simp
theorem N1_snd (a : Card) : (N1 a).2 = isC a := by unfold N1; cases isC a <;> rfl
theorem CardText_ok {n : Nat} (hn : BIG ≤ n) (a : Card) : ∃ t, i_CardText n a = some t ∧ s_CardText n a = some t ∧ (t.2 = true → t.1.size = 4) := by
  unfold i_CardText s_CardText
  rw [i_IsCard_eq hn, s_l2Card_eq hn]
  cases hc : isC a with
  | false => exact ⟨_, rfl, rfl, fun h => by cases h⟩
  | true =>
    obtain ⟨x, e1, e2, h⟩ := text_ok hn hc
    simp only [ob_some, Bool.not_true, br_false]
    rw [e1, e2]
    exact ⟨_, rfl, rfl, fun _ => h⟩

theorem d1_t3 {x y : Int} (hx : 0 ≤ x ∧ x ≤ 2) (hy : 0 ≤ y ∧ y ≤ 2) : d1 y (t3 x y) = d1 x y := by
  rcases in012 hx with rfl | rfl | rfl <;> rcases in012 hy with rfl | rfl | rfl <;> decide
theorem dif_line {p q r : Card} (hp : isC p = true) (hq : isC q = true) (h : lineB p q r = true) : dif q r = dif p q := by
  unfold lineB at h
  simp only [Bool.and_eq_true, decide_eq_true_eq] at h
  rw [← h.2]
  rw [isC_iff] at hp hq
  unfold dif third
  simp only []
  rw [d1_t3 hp.1 hq.1, d1_t3 hp.2.1 hq.2.1, d1_t3 hp.2.2.1 hq.2.2.1, d1_t3 hp.2.2.2 hq.2.2.2]
theorem J1_ok {n : Nat} (hn : BIG ≤ n) (a b : Card) : v_FnCards_J1 n ((T3 a b).2, a, b, (T3 a b).1) = some true := by
  unfold v_FnCards_J1
  simp only [i_ThirdCard_eq hn, i_IsLine_eq hn, ob_some, br_some]
  unfold T3
  split
  · rename_i h
    simp only [Bool.and_eq_true, Bool.not_eq_true', decide_eq_false_iff_not] at h
    obtain ⟨⟨ha, hb⟩, hne⟩ := h
    have hc := third_isC ha hb
    have n1 : third a b ≠ a := third_ne ha hb hne
    have n2 : third a b ≠ b := third_ne2 ha hb hne
    have l1 : lineB (third a b) b a = true := by
      unfold lineB
      rw [third_comm (third a b) b, third_comm a b, third_back hb ha]
      rw [third_comm b a]
      simp [n2]
    unfold I3
    simp [ha, hb, hc, hne, Ne.symm hne, eqd, n1, n2, Ne.symm n1, third_back ha hb, third_comm b a, l1]
  · simp
theorem L2_step {n : Nat} (go : Bool × Bool × Bool × Int × Card × Card × Card × Card × Card × Card → Option Bool) (t l acc : Bool) (i j : Int) (hj : i + 1 = j) (a b c p q r : Card) (hi : 0 ≤ i ∧ i ≤ 3)
    {x y z : Int} (ep : V4.get p i.toNat = x) (eq : V4.get q i.toNat = y) (er : V4.get r i.toNat = z) (hp : 0 ≤ x ∧ x ≤ 2) (hq : 0 ≤ y ∧ y ≤ 2) (hr : 0 ≤ z ∧ z ≤ 2) :
    v_FnCards_L2 n go (t, l, acc, i, a, b, c, p, q, r) = go (t, l, acc && decide (t3 x y = z), j, a, b, c, p, q, r) := by
  unfold v_FnCards_L2
  have e : inb i 4 = true := inb_pos hi.1 (by omega)
  have e2 : decide (i < 4) = true := decide_eq_true (by omega)
  simp only [lt_eq]
  rw [e2, br_true, e, ckb_true, ckb_true, ckb_true, ep, eq, er, w64_id (x := i + 1) (by omega), w64_id (x := x + y) (by omega), w64_id (by omega), t3_sum hp hq hr, br_some, hj]
  cases acc <;> rfl
theorem J3_loop {n : Nat} (hn : BIG ≤ n) (a b p q r : Card) (h2 : (I3 p q r).2 = true) (hpq : p ≠ q) :
    fx (v_FnCards_L2 n) n ((T3 a b).2, (I3 p q r).1, true, 0, a, b, (T3 a b).1, p, q, r) = some true := by
  unfold I3 at h2
  split at h2
  · rename_i hc
    simp only [Bool.and_eq_true] at hc
    obtain ⟨hp, hq, hr⟩ := hc
    have e1 : (I3 p q r).1 = lineB p q r := by unfold I3; simp [hp, hq, hr]
    have P := isC_iff.1 hp; have Q := isC_iff.1 hq; have R := isC_iff.1 hr
    have hJ := J1_ok hn a b
    obtain ⟨m, rfl⟩ : ∃ m, n = m + 5 := ⟨n - 5, by unfold BIG at hn; omega⟩
    have el : (((true && decide (t3 p.x0 q.x0 = r.x0)) && decide (t3 p.x1 q.x1 = r.x1)) && decide (t3 p.x2 q.x2 = r.x2) && decide (t3 p.x3 q.x3 = r.x3)) = lineB p q r := by
      unfold lineB third
      cases r
      simp only [V4.mk.injEq, hpq, decide_false, Bool.not_false, Bool.true_and, Bool.decide_and, Bool.and_assoc]
    have k0 : fx (v_FnCards_L2 (m + 5)) (m + 5) ((T3 a b).2, (I3 p q r).1, true, 0, a, b, (T3 a b).1, p, q, r) = fx (v_FnCards_L2 (m + 5)) (m + 4) ((T3 a b).2, (I3 p q r).1, true && decide (t3 p.x0 q.x0 = r.x0), 1, a, b, (T3 a b).1, p, q, r) :=
      L2_step _ _ _ _ 0 1 rfl _ _ _ p q r (by omega) rfl rfl rfl P.1 Q.1 R.1
    have k1 := fun acc => L2_step (n := m + 5) (fx (v_FnCards_L2 (m + 5)) (m + 3)) (T3 a b).2 (I3 p q r).1 acc 1 2 rfl a b (T3 a b).1 p q r (by omega) rfl rfl rfl P.2.1 Q.2.1 R.2.1
    have k2 := fun acc => L2_step (n := m + 5) (fx (v_FnCards_L2 (m + 5)) (m + 2)) (T3 a b).2 (I3 p q r).1 acc 2 3 rfl a b (T3 a b).1 p q r (by omega) rfl rfl rfl P.2.2.1 Q.2.2.1 R.2.2.1
    have k3 := fun acc => L2_step (n := m + 5) (fx (v_FnCards_L2 (m + 5)) (m + 1)) (T3 a b).2 (I3 p q r).1 acc 3 4 rfl a b (T3 a b).1 p q r (by omega) rfl rfl rfl P.2.2.2 Q.2.2.2 R.2.2.2
    rw [k0, fx_succ, k1, fx_succ, k2, fx_succ, k3, fx_succ]
    show br (! ((((true && decide (t3 p.x0 q.x0 = r.x0)) && decide (t3 p.x1 q.x1 = r.x1)) && decide (t3 p.x2 q.x2 = r.x2) && decide (t3 p.x3 q.x3 = r.x3)) == (I3 p q r).1)) (some false) (v_FnCards_J1 (m + 5) ((T3 a b).2, a, b, (T3 a b).1)) = some true
    rw [el, e1, beq_self_eq_true, Bool.not_true, br_false, hJ]
  · cases h2
theorem J3_ok {n : Nat} (hn : BIG ≤ n) (a b p q r : Card) : v_FnCards_J3 n ((T3 a b).2, (I3 p q r).1, (I3 p q r).2, a, b, (T3 a b).1, p, q, r) = some true := by
  unfold v_FnCards_J3
  simp only [br_some, ob_some, J1_ok hn]
  cases h2 : (I3 p q r).2 with
  | false => simp
  | true =>
    by_cases hpq : p = q
    · rw [hpq, eqd_self]; simp
    · rw [J3_loop hn a b p q r h2 hpq, br_self]
theorem J4_ok {n : Nat} (hn : BIG ≤ n) (a b p q r : Card) : v_FnCards_J4 n ((T3 a b).2, (I3 p q r).1, (I3 p q r).2, (K3 p q r).1, (K3 p q r).2, a, b, (T3 a b).1, p, q, r) = some true := by
  unfold v_FnCards_J4
  simp only [i_DifferIn_eq hn, ob_some, J3_ok hn]
  have h : (K3 p q r).2 = true → D2 q r = ((K3 p q r).1, true) := fun h => by
    unfold K3 at h ⊢
    split at h
    · rename_i hc
      rw [if_pos hc]
      simp only [Bool.and_eq_true] at hc
      unfold D2; simp [hc.1.2.1, hc.1.2.2, dif_line hc.1.1 hc.1.2.1 hc.2]
    · cases h
  cases hk : (K3 p q r).2 with
  | false => rfl
  | true => rw [h hk]; simp

theorem law_FnCards {n : Nat} (hn : BIG ≤ n) (a : List Int) (ok : (Ty.sl (.int .u8)).ok a) : v_FnCards n a = some true := by
  have hb := ok_bytes ok
  unfold v_FnCards
  rw [v_rBig_eq, ob_some]
  obtain ⟨⟨x, y⟩, e1⟩ := DrawThirdCard_ok n hb
  obtain ⟨⟨p, q, r⟩, e2⟩ := DrawIsLine_ok hn hb
  obtain ⟨k, e3⟩ := DrawCardAt_ok n hb
  obtain ⟨t, ht1, ht2, ht3⟩ := CardText_ok hn x
  have hJ := J4_ok hn x y p q r
  have hsz : (if t.2 = true then !decide ((t.1.size : Int) = 4) else false) = false := by
    split
    · rename_i h; simp [ht3 h]
    · rfl
  rw [e1, e2, e3]
  simp only [ob_some, i_ThirdCard_eq hn, s_ThirdCard_eq hn, i_IsLine_eq hn, s_IsLine_eq hn, i_LineKind_eq hn, s_LineKind_eq hn, i_DifferIn_eq hn, s_DifferIn_eq hn, i_CardNumber_eq hn, s_CardNumber_eq hn,
    i_CardAt_eq, s_CardAt_eq, ht1, ht2, i_IsCard_eq hn, eqd_self, beq_self_eq_true, Bool.not_true, br_false, br_some, decide_true, Bool.false_eq_true, if_false, ← K3_snd, ← D2_snd, ← T3_snd, N1_snd, hJ, hsz]
  cases hc : isC x with
  | false => simp [br_self]
  | true =>
    have e : A1 (N1 x).1 = (x, true) := by
      unfold N1 A1
      rw [if_pos hc]
      have := num_bd hc
      simp only []
      rw [if_pos this, cardAt_num hc]
    rw [e]
    simp [eqd_self, br_self]
end Go.Pl

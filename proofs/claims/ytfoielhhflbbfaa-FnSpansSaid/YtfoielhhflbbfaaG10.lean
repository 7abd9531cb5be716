/- Plain laws: R48. -/
import Derived.Test.YtfoielhhflbbfaaG5
import Derived.Test.YtfoielhhflbbfaaG8
import Derived.Test.YtfoielhhflbbfaaG9
import Derived.Test.YtfoielhhflbbfaaG7
set_option linter.unusedVariables false
set_option linter.unusedSimpArgs false
namespace Go.Pl
open Go Go.Tv Go.RowKit
set_option linter.unusedVariables false
set_option linter.unusedSimpArgs false
def opB (a b c : Card) : Bool := isC a && isC b && isC c && !decide (a = b) && !decide (a = c) && !decide (b = c) && !decide (third a b = c)
theorem opB_iff {a b c : Card} : opB a b c = true ↔ Opn a b c := by
  unfold opB
  simp only [Bool.and_eq_true, Bool.not_eq_true', decide_eq_false_iff_not]
  constructor
  · rintro ⟨⟨⟨⟨⟨⟨h1, h2⟩, h3⟩, h4⟩, h5⟩, h6⟩, h7⟩
    exact { kA := h1, kB := h2, kC := h3, ab := h4, ac := h5, bc := h6, th := h7 }
  · intro h
    exact ⟨⟨⟨⟨⟨⟨h.kA, h.kB⟩, h.kC⟩, h.ab⟩, h.ac⟩, h.bc⟩, h.th⟩
theorem i_arePlane_eq {n : Nat} (hn : BIG ≤ n) (a b c : Card) : i_arePlane n a b c = some (opB a b c) := by
  unfold i_arePlane
  rw [i_areCards_eq hn (by simp)]
  cases ha : isC a with
  | false => unfold opB; simp [ha]
  | true =>
    cases hb : isC b with
    | false => unfold opB; simp [ha, hb]
    | true =>
      rw [i_isLine_eq hn c ha hb]
      unfold opB lineB
      simp only [List.all_cons, List.all_nil, ha, hb, Bool.true_and, Bool.and_true, eqd, ob_some]
      cases isC c <;> cases decide (a = b) <;> cases decide (a = c) <;> cases decide (b = c) <;> cases decide (third a b = c) <;> rfl
theorem s_l6Open_eq {n : Nat} (hn : BIG ≤ n) (a b c : Card) : s_l6Open n a b c = some (opB a b c) := by
  unfold s_l6Open
  rw [s_l2Card_eq hn, s_l2Card_eq hn, s_l2Card_eq hn]
  cases ha : isC a with
  | false => unfold opB; simp [ha]
  | true =>
    cases hb : isC b with
    | false => unfold opB; simp [ha, hb]
    | true =>
      rw [s_l2Line_eq hn c ha hb]
      unfold opB lineB
      simp only [ha, hb, Bool.true_and, Bool.and_true, eqd, ob_some]
      cases isC c <;> cases decide (a = b) <;> cases decide (a = c) <;> cases decide (b = c) <;> cases decide (third a b = c) <;> rfl
theorem c3_all {a b c : Card} (h : C3 a b c) : AllC [a, b, c] := fun x hx => by
  simp only [List.mem_cons, List.not_mem_nil, or_false] at hx
  rcases hx with rfl | rfl | rfl
  · exact h.kA
  · exact h.kB
  · exact h.kC
theorem span3 {n : Nat} (hn : BIG ≤ n) {a b c : Card} (h : C3 a b c) : i_span n [a, b, c] = some (pln a b c) ∧ s_l6Span n [a, b, c] = some (pln a b c) := by
  obtain ⟨r, e1, e2, S⟩ := span_eq hn (c3_all h) (by simp)
  have := S.uniq (pln_sp h)
  subst this
  exact ⟨e1, e2⟩
def PO (a b c : Card) : Bool × List Card := if opB a b c then (true, pln a b c) else (false, [])
theorem i_PlaneOf_eq {n : Nat} (hn : BIG ≤ n) (a b c : Card) : i_PlaneOf n a b c = some (PO a b c) := by
  unfold i_PlaneOf PO
  rw [i_arePlane_eq hn, ob_some]
  cases ho : opB a b c with
  | false => rfl
  | true => rw [(span3 hn (opB_iff.1 ho).toC3).1]; rfl
theorem s_PlaneOf_eq {n : Nat} (hn : BIG ≤ n) (a b c : Card) : s_PlaneOf n a b c = some (PO a b c) := by
  unfold s_PlaneOf PO
  rw [s_l6Open_eq hn, ob_some]
  cases ho : opB a b c with
  | false => rfl
  | true => rw [(span3 hn (opB_iff.1 ho).toC3).2]; rfl
abbrev V9 := VL 9 Card
def z9 : V9 := VL.rep 9 ⟨0, 0, 0, 0⟩
def put4 (v : V9) (k : Nat) (j : Nat) (x : Int) : V9 := VL.set v k (V4.set (VL.get ⟨0, 0, 0, 0⟩ v k) j x)
def mqS (a b c : Card) (k : Nat) (v : V9) : V9 := put4 (put4 (put4 (put4 v k 0 (mc a.x0 b.x0 c.x0 k)) k 1 (mc a.x1 b.x1 c.x1 k)) k 2 (mc a.x2 b.x2 c.x2 k)) k 3 (mc a.x3 b.x3 c.x3 k)
theorem put4_get (v : V9) {k : Nat} (hk : k < 9) (j : Nat) (x : Int) (i : Nat) : VL.get ⟨0, 0, 0, 0⟩ (put4 v k j x) i = if i = k then V4.set (VL.get ⟨0, 0, 0, 0⟩ v k) j x else VL.get ⟨0, 0, 0, 0⟩ v i := by
  unfold put4
  rw [VL.get_set _ _ hk]
theorem mqS_get {a b c : Card} (h : C3 a b c) (v : V9) {k : Nat} (hk : k < 9) (i : Nat) : VL.get ⟨0, 0, 0, 0⟩ (mqS a b c k v) i = if i = k then sq a b c k else VL.get ⟨0, 0, 0, 0⟩ v i := by
  obtain ⟨r0, r1, r2, r3⟩ := h.r
  unfold mqS
  simp only [put4_get _ hk, if_true]
  by_cases e : i = k
  · simp only [if_pos e]
    rw [(m1_fact r0 hk).1, (m1_fact r1 hk).1, (m1_fact r2 hk).1, (m1_fact r3 hk).1]
    rfl
  · simp only [if_neg e]
def mqF (a b c : Card) : Nat → V9
  | 0 => z9
  | k + 1 => mqS a b c k (mqF a b c k)
theorem mqF_get {a b c : Card} (h : C3 a b c) : ∀ (m : Nat), m ≤ 9 → ∀ i, i < m → VL.get ⟨0, 0, 0, 0⟩ (mqF a b c m) i = sq a b c i
  | 0, _, _, hi => by omega
  | m + 1, hm, i, hi => by
    rw [mqF, mqS_get h _ (by omega)]
    by_cases e : i = m
    · rw [if_pos e, e]
    · rw [if_neg e]; exact mqF_get h m (by omega) i (by omega)
theorem mq_i {n : Nat} (hn : BIG ≤ n) (a b c : Card) (u v : V9) {k : Nat} (hk : k < 9) (go : Int × Card × Card × Card × V9 × V9 → Opt (V9 × Bool)) :
    fx (i_MagicSquare_L1 n go) n ((k : Int), (k : Int), 0, a, b, c, u, v) = go (((k + 1 : Nat) : Int), a, b, c, u, mqS a b c k v) := by
  obtain ⟨q, rfl⟩ : ∃ q, n = q + 5 := ⟨n - 5, by unfold BIG at hn; omega⟩
  have b9 : inb (k : Int) 9 = true := inb_ok hk
  have w0 : w64 (0 + 1) = 1 := by decide
  have w1 : w64 (1 + 1) = 2 := by decide
  have w2 : w64 (2 + 1) = 3 := by decide
  have w3 : w64 (3 + 1) = 4 := by decide
  have wk : w64 ((k : Int) + 1) = ((k + 1 : Nat) : Int) := w64_succ (by omega)
  have st : ∀ (m : Nat) (j : Int) (v : V9), 0 ≤ j → j < 4 → i_MagicSquare_L1 (q + 5) go (fx (i_MagicSquare_L1 (q + 5) go) m) ((k : Int), (k : Int), j, a, b, c, u, v) =
      fx (i_MagicSquare_L1 (q + 5) go) m ((k : Int), (k : Int), w64 (j + 1), a, b, c, u, put4 v k j.toNat (mc (V4.get a j.toNat) (V4.get b j.toNat) (V4.get c j.toNat) k)) := fun m j v h0 h4 => by
    have b4 : inb j 4 = true := inb_pos h0 h4
    simp only [i_MagicSquare_L1, lt_eq]
    rw [br_pos (decide_eq_true h4), ckb_pos b4, ckb_pos b4, ckb_pos b4, ckb_pos b4, ckb_pos b4, ckb_pos b9, ckb_pos b4]; rfl
  rw [fx_succ, st _ 0 _ (by omega) (by omega), w0, fx_succ, st _ 1 _ (by omega) (by omega), w1, fx_succ, st _ 2 _ (by omega) (by omega), w2, fx_succ, st _ 3 _ (by omega) (by omega), w3, fx_succ]
  simp only [i_MagicSquare_L1, lt_eq]
  rw [br_neg (show decide ((4 : Int) < 4) = false by decide), wk]; rfl
theorem mq_s {n : Nat} (hn : BIG ≤ n) (a b c : Card) (u v : V9) {k : Nat} (hk : k < 9) (go : Int × Card × Card × Card × V9 × V9 → Opt (V9 × Bool)) :
    fx (s_MagicSquare_L1 n go) n ((k : Int), 0, a, b, c, u, v) = go (((k + 1 : Nat) : Int), a, b, c, u, mqS a b c k v) := by
  obtain ⟨q, rfl⟩ : ∃ q, n = q + 5 := ⟨n - 5, by unfold BIG at hn; omega⟩
  have b9 : inb (k : Int) 9 = true := inb_ok hk
  have w0 : w64 (0 + 1) = 1 := by decide
  have w1 : w64 (1 + 1) = 2 := by decide
  have w2 : w64 (2 + 1) = 3 := by decide
  have w3 : w64 (3 + 1) = 4 := by decide
  have wk : w64 ((k : Int) + 1) = ((k + 1 : Nat) : Int) := w64_succ (by omega)
  have st : ∀ (m : Nat) (j : Int) (v : V9), 0 ≤ j → j < 4 → s_MagicSquare_L1 (q + 5) go (fx (s_MagicSquare_L1 (q + 5) go) m) ((k : Int), j, a, b, c, u, v) =
      fx (s_MagicSquare_L1 (q + 5) go) m ((k : Int), w64 (j + 1), a, b, c, u, put4 v k j.toNat (mc (V4.get a j.toNat) (V4.get b j.toNat) (V4.get c j.toNat) k)) := fun m j v h0 h4 => by
    have b4 : inb j 4 = true := inb_pos h0 h4
    simp only [s_MagicSquare_L1, lt_eq]
    rw [br_pos (decide_eq_true h4), ckb_pos b4, ckb_pos b4, ckb_pos b4, ckb_pos b4, ckb_pos b4, ckb_pos b9, ckb_pos b4]; rfl
  rw [fx_succ, st _ 0 _ (by omega) (by omega), w0, fx_succ, st _ 1 _ (by omega) (by omega), w1, fx_succ, st _ 2 _ (by omega) (by omega), w2, fx_succ, st _ 3 _ (by omega) (by omega), w3, fx_succ]
  simp only [s_MagicSquare_L1, lt_eq]
  rw [br_neg (show decide ((4 : Int) < 4) = false by decide), wk]; rfl
def MQ (a b c : Card) : V9 × Bool := if opB a b c then (mqF a b c 9, true) else (z9, false)
theorem i_MagicSquare_eq {n : Nat} (hn : BIG ≤ n) (a b c : Card) : i_MagicSquare n a b c = some (MQ a b c) := by
  unfold i_MagicSquare MQ
  rw [lt_eq, i_arePlane_eq hn, ob_some]
  cases ho : opB a b c with
  | false => rfl
  | true =>
    rw [Bool.not_true, br_false]
    have := fx_cnt (B := i_MagicSquare_L2 n) 9 (fun k => ((k : Int), a, b, c, z9, mqF a b c k)) (fun _ => True) (fun _ => some (mqF a b c 9, true)) (fun self k hk _ ih => by
      simp only [i_MagicSquare_L2]
      by_cases h1 : k < 9
      · rw [br_pos (decide_eq_true (show (k : Int) < 9 by omega)), mq_i hn a b c _ _ h1]
        exact ih h1 trivial
      · have : k = 9 := by omega
        subst this
        rw [br_neg (decide_eq_false (by omega))]) n 0 (Nat.zero_le _) trivial (big_gt hn (by omega))
    exact this
theorem s_MagicSquare_eq {n : Nat} (hn : BIG ≤ n) (a b c : Card) : s_MagicSquare n a b c = some (MQ a b c) := by
  unfold s_MagicSquare MQ
  rw [lt_eq, s_l6Open_eq hn, ob_some]
  cases ho : opB a b c with
  | false => rfl
  | true =>
    rw [Bool.not_true, br_false]
    have := fx_cnt (B := s_MagicSquare_L2 n) 9 (fun k => ((k : Int), a, b, c, z9, mqF a b c k)) (fun _ => True) (fun _ => some (mqF a b c 9, true)) (fun self k hk _ ih => by
      simp only [s_MagicSquare_L2]
      by_cases h1 : k < 9
      · rw [br_pos (decide_eq_true (show (k : Int) < 9 by omega)), mq_s hn a b c _ _ h1]
        exact ih h1 trivial
      · have : k = 9 := by omega
        subst this
        rw [br_neg (decide_eq_false (by omega))]) n 0 (Nat.zero_le _) trivial (big_gt hn (by omega))
    exact this
theorem flats_eq (n : Nat) (d : Int) : ∃ r, i_CountFlats n d = some r ∧ s_CountFlats n d = some r := by
  unfold i_CountFlats s_CountFlats
  rw [i_within_eq, s_l1In_eq, ob_some, ob_some]
  by_cases h : 0 ≤ d ∧ d ≤ 4
  · rw [decide_eq_true h]
    rcases (show d = 0 ∨ d = 1 ∨ d = 2 ∨ d = 3 ∨ d = 4 by omega) with rfl | rfl | rfl | rfl | rfl <;> exact ⟨_, rfl, rfl⟩
  · rw [decide_eq_false h]; exact ⟨_, rfl, rfl⟩
theorem pl_L1 {n : Nat} (hn : BIG ≤ n) {h : List Card} (hc : AllC h) {v : VL 81 Bool} (hv : ∀ c, isC c = true → VL.get false v (num c).toNat = h.contains c) {a b c : Card} (ka : isC a = true) (kb : isC b = true) (kc : isC c = true) (hab : a ≠ b) (hac : a ≠ c) (hbc : b ≠ c)
    (u1 u2 u3 : List Card) (u4 u5 u6 u7 u8 u9 : Int) (u10 : List Card) (cnt : Nat) (hcnt : cnt ≤ 1000000) {k : Nat} (hk : k ≤ 1000000)
    (go : List Card × Int × List Card × Int × Int × List Card × Int × Int × List Card × Int × Int × (VL 81 Bool) × Card × Card → Opt (Int × Bool)) :
    fx (i_CountPlanes_L1 n go) n (u1, (cnt : Int), (MQ a b c).2, u2, u4, u5, u3, u6, u7, u10, u8, (k : Int), (MQ a b c).1, 0, v, a, b) = go (u1, ((cnt + b2 (Gd h (a, b, c)) : Nat) : Int), u2, u4, u5, u3, u6, u7, u10, u8, ((k + 1 : Nat) : Int), v, a, b) := by
  let okm : Nat → Bool := fun m => (MQ a b c).2 && (List.range m).all fun i => h.contains (sq a b c i)
  have e9 : okm 9 = Gd h (a, b, c) := by
    show ((MQ a b c).2 && (List.range 9).all fun i => h.contains (sq a b c i)) = (nl (a, b, c) && subB h (a, b, c))
    unfold MQ nl subB sqL opB
    rw [ka, kb, kc, decide_eq_false hab, decide_eq_false hac, decide_eq_false hbc, List.all_map]
    simp only [Bool.true_and, Bool.not_false]
    cases (!decide (third a b = c)) <;> rfl
  have C := fx_cnt (B := i_CountPlanes_L1 n go) 9 (fun m => (u1, (cnt : Int), okm m, u2, u4, u5, u3, u6, u7, u10, u8, (k : Int), (MQ a b c).1, (m : Int), v, a, b)) (fun _ => True) (fun _ => go (u1, ((cnt + b2 (Gd h (a, b, c)) : Nat) : Int), u2, u4, u5, u3, u6, u7, u10, u8, ((k + 1 : Nat) : Int), v, a, b)) (fun self m hm _ ih => by
    simp only [i_CountPlanes_L1, lt_eq]
    by_cases h1 : m < 9
    · have ih := ih h1 trivial
      have stp : okm (m + 1) = (okm m && h.contains (sq a b c m)) := by
        show ((MQ a b c).2 && (List.range (m + 1)).all _) = _
        rw [List.range_succ, List.all_append]
        simp [okm, Bool.and_assoc]
      rw [br_pos (decide_eq_true (show (m : Int) < 9 by omega)), ckb_pos (inb_ok h1), w64_succ (by omega)]
      cases hok : okm m with
      | false =>
        rw [hok, Bool.false_and] at stp
        rw [stp] at ih
        exact ih
      | true =>
        have hop : opB a b c = true := by
          have : (MQ a b c).2 = true := (Bool.and_eq_true _ _ ▸ hok).1
          unfold MQ at this
          cases ho : opB a b c with
          | true => rfl
          | false => rw [ho] at this; cases this
        have C3' : C3 a b c := ⟨ka, kb, kc⟩
        have g : VL.get (⟨0, 0, 0, 0⟩ : Card) (MQ a b c).1 m = sq a b c m := by
          unfold MQ
          rw [if_pos hop]
          exact mqF_get C3' 9 (by omega) m h1
        have ks := sq_isC a b c m
        have hb := num_bd ks
        rw [br_true, toNat_cast, g, i_number_eq hn ks, ob_some, ckb_pos (inb_pos (by omega) (by omega)), ob_some, hv _ ks]
        rw [hok, Bool.true_and] at stp
        rw [stp] at ih
        exact ih
    · have : m = 9 := by omega
      subst this
      rw [br_neg (decide_eq_false (by omega)), e9, w64_succ (by omega), w64_succ (by omega)]
      cases Gd h (a, b, c) <;> rfl) n 0 (Nat.zero_le _) trivial (big_gt hn (by omega))
  have e0 : okm 0 = (MQ a b c).2 := by show ((MQ a b c).2 && true) = _; rw [Bool.and_true]
  simp only [e0] at C
  exact C
def gI (h : List Card) (i j k : Nat) : Nat := b2 (Gd h (gl (⟨0, 0, 0, 0⟩ : Card) h i, gl (⟨0, 0, 0, 0⟩ : Card) h j, gl (⟨0, 0, 0, 0⟩ : Card) h k))
theorem gI_le (h : List Card) (i j k : Nat) : gI h i j k ≤ 1 := by unfold gI b2; split <;> omega
theorem sub_gl {h : List Card} {j k : Nat} (hk : k < j) (hj : j ≤ h.length) : gl (⟨0, 0, 0, 0⟩ : Card) (sub h 0 j) k = gl (⟨0, 0, 0, 0⟩ : Card) h k := by
  have e : sub h 0 j = h.take j := by unfold sub; simp
  rw [e, gl_eq (by rw [List.length_take]; omega), gl_eq (by omega), List.getElem_take]
theorem sub_ln {h : List Card} {j : Nat} (hj : j ≤ h.length) : (sub h 0 j).length = j := by unfold sub; simp; omega
def CPl (h : List Card) : Int × Bool := if hand h then (((trips h).countP (Rs h) : Int), true) else (0, false)
theorem i_CountPlanes_eq {n : Nat} (hn : BIG ≤ n) {h : List Card} (hl : h.length ≤ 1048576) : i_CountPlanes n h = some (CPl h) := by
  unfold i_CountPlanes CPl
  rw [i_IsHand_eq hn (by omega), ob_some]
  cases hh : hand h with
  | false => rfl
  | true =>
    have h27 := hand_len hh
    have hc : AllC h := hand_all hh
    have hnd := hand_nodup hh
    have hs : SS h := (hand_iff.1 hh).2.1
    rw [Bool.not_true, br_false, lt_eq, if_pos rfl]
    have L5 : fx (i_CountPlanes_L5 n) n (h, h, (h.length : Int), 0, VL.rep 81 false) = some (((trips h).countP (Rs h) : Int), true) := by
      refine fx_inv (B := i_CountPlanes_L5 n) (fun s => ∃ (i : Nat) (v : VL 81 Bool), s = (h, h, (h.length : Int), (i : Int), v) ∧ i ≤ h.length ∧ ∀ c, isC c = true → VL.get false v (num c).toNat = (h.take i).contains c) (fun s => h.length - s.2.2.2.1.toNat) (fun o => o = some (((trips h).countP (Rs h) : Int), true)) ?_ n _ ⟨0, VL.rep 81 false, rfl, Nat.zero_le _, fun c kc => by rw [VL.get_rep]; rfl⟩ (big_gt hn (by simp only []; omega))
      rintro self _ ⟨i, v, rfl, hi, hv⟩ ih
      simp only [i_CountPlanes_L5]
      by_cases h1 : i < h.length
      · have kc := gl_C hc h1
        have hb := num_bd kc
        rw [br_pos (decide_eq_true (show (i : Int) < (h.length : Int) by omega)), ckb_pos (inb_ok h1), toNat_cast, i_number_eq hn kc, ob_some, ckb_pos (inb_pos (by omega) (by omega)), lt_eq, lt_eq, w64_succ (by omega)]
        refine ih _ ⟨i + 1, _, rfl, by omega, fun d kd => ?_⟩ (by simp only []; omega)
        have hbd := num_bd kd
        rw [VL.get_set (n := 81) false v (by omega) true, hv d kd, take_snoc h1, Bool.eq_iff_iff]
        rw [gl_eq h1] at kc hb ⊢
        by_cases e : d = h[i]
        · subst e
          exact ⟨fun _ => List.contains_iff_mem.2 (List.mem_append.2 (.inr (List.mem_singleton.2 rfl))), fun _ => if_pos rfl⟩
        · have : ¬ (num d).toNat = (num h[i]).toNat := fun h => e (num_inj kd kc (by omega))
          rw [if_neg this, List.contains_iff_mem, List.contains_iff_mem, List.mem_append, List.mem_singleton]
          exact ⟨fun h => .inl h, fun h => h.resolve_right e⟩
      · have : i = h.length := by omega
        subst this
        rw [List.take_length] at hv
        rw [br_neg (decide_eq_false (by omega))]
        have hg2 : ∀ i j, j ≤ 27 → S j (gI h i j) ≤ 27 := fun i j hj => by
          have := S_le (n := j) (f := gI h i j) (g := fun _ => 1) fun k _ => gI_le h i j k
          rw [S_const] at this; omega
        have hg3 : ∀ i, i ≤ 27 → S i (fun j => S j (gI h i j)) ≤ 729 := fun i hi => by
          have := S_le (n := i) (f := fun j => S j (gI h i j)) (g := fun _ => 27) fun j hj => hg2 i j (by omega)
          rw [S_const] at this; omega
        have hg4 : S h.length (fun i => S i fun j => S j (gI h i j)) ≤ 19683 := by
          have := S_le (n := h.length) (f := fun i => S i fun j => S j (gI h i j)) (g := fun _ => 729) fun i hi => hg3 i (by omega)
          rw [S_const] at this; omega
        have hne : ∀ i k, i < h.length → k < i → gl (⟨0, 0, 0, 0⟩ : Card) h i ≠ gl (⟨0, 0, 0, 0⟩ : Card) h k := fun i k hi hk => (HandL.of hh).ne hi (by omega) (by omega)
        have L4 := fx_sum (B := i_CountPlanes_L4 n) h.length (fun i t => (h, t, h, (h.length : Int), (i : Int), v)) (fun i => S i fun j => S j (gI h i j)) (fun t => Tv.lt (w64 (Int.tdiv t 72)) fun x26 => some (x26, true)) 100000 (fun self4 i t hi ht hM => by
          have hg3i := hg3 i (by omega)
          simp only [i_CountPlanes_L4]
          rw [br_pos (decide_eq_true (show (i : Int) < (h.length : Int) by omega)), ckb_pos (inb_ok hi), ckb_pos (slb_ok (by omega) (by omega) (by omega)), toNat_cast]
          have L3 := fx_sum (B := i_CountPlanes_L3 n self4) i (fun j t => (h, t, h, (h.length : Int), (i : Int), sub h 0 i, ((sub h 0 i).length : Int), (j : Int), v, gl (⟨0, 0, 0, 0⟩ : Card) h i)) (fun j => S j (gI h i j)) (fun t => self4 (h, t, h, (h.length : Int), ((i + 1 : Nat) : Int), v)) 200000 (fun self3 j t hj ht hM => by
            simp only [i_CountPlanes_L3]
            rw [sub_ln (by omega), br_pos (decide_eq_true (show (j : Int) < (i : Int) by omega)), ckb_pos (inb_ok hj), ckb_pos (slb_ok (by omega) (by omega) (by omega)), toNat_cast, sub_gl hj (by omega)]
            have L2 := fx_sum (B := i_CountPlanes_L2 n self3) j (fun k t => (h, t, h, (h.length : Int), (i : Int), sub h 0 i, (i : Int), (j : Int), sub h 0 j, ((sub h 0 j).length : Int), (k : Int), v, gl (⟨0, 0, 0, 0⟩ : Card) h i, gl (⟨0, 0, 0, 0⟩ : Card) h j)) (gI h i j) (fun t => self3 (h, t, h, (h.length : Int), (i : Int), sub h 0 i, (i : Int), ((j + 1 : Nat) : Int), v, gl (⟨0, 0, 0, 0⟩ : Card) h i)) 300000 (fun self2 k t hk ht hM => by
              simp only [i_CountPlanes_L2]
              obtain ⟨q, rfl⟩ : ∃ q : Nat, t = q := ⟨t.toNat, by omega⟩
              rw [sub_ln (by omega), br_pos (decide_eq_true (show (k : Int) < (j : Int) by omega)), ckb_pos (inb_ok hk), toNat_cast, sub_gl hk (by omega), i_MagicSquare_eq hn, ob_some, pl_L1 hn hc hv (gl_C hc (by omega)) (gl_C hc (by omega)) (gl_C hc (by omega)) (hne i j (by omega) hj) (hne i k (by omega) (by omega)) (hne j k (by omega) hk) _ _ _ _ _ _ _ _ 0 _ _ (by omega) (by omega)]
              rw [Int.natCast_add]; rfl) (fun self2 t ht hM => by
              simp only [i_CountPlanes_L2, lt_eq]
              rw [sub_ln (by omega), br_neg (decide_eq_false (by omega)), w64_succ (by omega)]) n 0 t (Nat.zero_le _) (big_gt hn (by omega)) ht (by rw [S_range']; have := hg2 i j (by omega); omega)
            rw [S_range'] at L2
            exact L2) (fun self3 t ht hM => by
            simp only [i_CountPlanes_L3, lt_eq]
            rw [sub_ln (by omega), br_neg (decide_eq_false (by omega)), w64_succ (by omega)]) n 0 t (Nat.zero_le _) (big_gt hn (by omega)) ht (by rw [S_range']; omega)
          rw [S_range'] at L3
          exact L3) (fun self4 t ht hM => by
          simp only [i_CountPlanes_L4]
          rw [br_neg (decide_eq_false (by omega))]) n 0 0 (Nat.zero_le _) (big_gt hn (by omega)) (Int.le_refl _) (by rw [S_range']; omega)
        rw [S_range'] at L4
        have key : S h.length (fun i => S i fun j => S j (gI h i j)) = 72 * (trips h).countP (Rs h) := by
          have := S_rev (⟨0, 0, 0, 0⟩ : Card) h (Gd h) h.length (Nat.le_refl _)
          rw [List.take_length, Gd_rev hc, planes_72 hs hc] at this
          exact this
        rw [key] at L4 hg4
        refine L4.trans ?_
        rw [lt_eq]
        have e : Int.tdiv (0 + ((72 * (trips h).countP (Rs h) : Nat) : Int)) 72 = ((trips h).countP (Rs h) : Int) := by
          rw [Int.tdiv_eq_ediv_of_nonneg (by omega)]; omega
        rw [e, w64_id (by omega)]
    exact L5
theorem s_l6First_eq {n : Nat} (hn : BIG ≤ n) {h : List Card} (hl : h.length ≤ 27) {i j k : Nat} (hi : i < h.length) (hj : j < h.length) (hk : k < h.length) (O : Opn (gl (⟨0, 0, 0, 0⟩ : Card) h i) (gl (⟨0, 0, 0, 0⟩ : Card) h j) (gl (⟨0, 0, 0, 0⟩ : Card) h k)) :
    s_l6First n h (i : Int) (j : Int) (k : Int) = some (Rs h (gl (⟨0, 0, 0, 0⟩ : Card) h i, gl (⟨0, 0, 0, 0⟩ : Card) h j, gl (⟨0, 0, 0, 0⟩ : Card) h k)) := by
  unfold s_l6First
  rw [ckb_pos (inb_ok hi), ckb_pos (inb_ok hj), ckb_pos (inb_ok hk), toNat_cast, toNat_cast, toNat_cast, (span3 hn O.toC3).2, ob_some]
  have hP9 := pln_len O
  have S := pln_sp O.toC3
  have hnl : nl (gl (⟨0, 0, 0, 0⟩ : Card) h i, gl (⟨0, 0, 0, 0⟩ : Card) h j, gl (⟨0, 0, 0, 0⟩ : Card) h k) = true := by
    unfold nl
    rw [decide_eq_false O.th]; rfl
  have hsub : subB h (gl (⟨0, 0, 0, 0⟩ : Card) h i, gl (⟨0, 0, 0, 0⟩ : Card) h j, gl (⟨0, 0, 0, 0⟩ : Card) h k) = !(pln (gl (⟨0, 0, 0, 0⟩ : Card) h i) (gl (⟨0, 0, 0, 0⟩ : Card) h j) (gl (⟨0, 0, 0, 0⟩ : Card) h k)).any fun d => !h.contains d := by
    rw [Bool.eq_iff_iff, subB_iff, Bool.not_eq_true', List.any_eq_false]
    unfold plT
    constructor
    · intro a d hd; rw [List.contains_iff_mem.2 (a d hd)]; decide
    · intro a d hd
      have := a d hd
      exact List.contains_iff_mem.1 (by simpa using this)
  unfold Rs Gd plT
  rw [hnl, hsub, Bool.true_and]
  simp only []
  generalize hA : gl (⟨0, 0, 0, 0⟩ : Card) h i = A at *
  generalize hB : gl (⟨0, 0, 0, 0⟩ : Card) h j = B at *
  generalize hD : gl (⟨0, 0, 0, 0⟩ : Card) h k = D at *
  generalize pln A B D = P at *
  have hC : ∀ q, q < 9 → isC (gl (⟨0, 0, 0, 0⟩ : Card) P q) = true := fun q hq => gl_C S.c (by omega)
  have b0 : inb 0 P.length = true := inb_ok (i := 0) (by omega)
  have b1 : inb 1 P.length = true := inb_ok (i := 1) (by omega)
  have b2' : inb 2 P.length = true := inb_ok (i := 2) (by omega)
  have b3 : inb 3 P.length = true := inb_ok (i := 3) (by omega)
  have J : ∀ (m : Nat), m < 9 → s_l6First_J1 n (h, (i : Int), (j : Int), (k : Int), (m : Int), P) = some (decide (gl (⟨0, 0, 0, 0⟩ : Card) P 0 = A) && decide (gl (⟨0, 0, 0, 0⟩ : Card) P 1 = B) && decide (gl (⟨0, 0, 0, 0⟩ : Card) P m = D)) := fun m hm => by
    unfold s_l6First_J1
    simp only []
    rw [ckb_pos b0, ckb_pos (inb_ok hi), ckb_pos b1, ckb_pos (inb_ok hj), ckb_pos (inb_ok (show m < P.length by omega)), ckb_pos (inb_ok hk)]
    simp only [toNat_cast, hA, hB, hD, eqd]
    cases decide (gl (⟨0, 0, 0, 0⟩ : Card) P 0 = A) <;> cases decide (gl (⟨0, 0, 0, 0⟩ : Card) P 1 = B) <;> cases decide (gl (⟨0, 0, 0, 0⟩ : Card) P m = D) <;> rfl
  have L := fx_find (B := s_l6First_L2 n) P (fun q => (h, (i : Int), (j : Int), (k : Int), (q : Int), P)) (fun d => !h.contains d) (fun _ => some false) (some (decide (fstT P = (A, B, D)))) (fun self q hq => by
    simp only [s_l6First_L2]
    rw [br_pos (decide_eq_true (show (q : Int) < (P.length : Int) by omega)), ckb_pos (inb_ok hq), toNat_cast, gl_eq hq, s_l2Has_eq hn (by omega), ob_some, lt_eq, w64_succ (by omega)]
    cases h.contains P[q] <;> rfl) (fun self => by
    simp only [s_l6First_L2]
    rw [br_neg (decide_eq_false (by omega)), ckb_pos b0, ckb_pos b1, s_l2Third_eq hn (hC 0 (by omega)) (hC 1 (by omega)), ob_some, ckb_pos b2']
    have e : ∀ m : Nat, decide (fstT P = (A, B, D)) = (decide (gl (⟨0, 0, 0, 0⟩ : Card) P 0 = A) && decide (gl (⟨0, 0, 0, 0⟩ : Card) P 1 = B) && decide (gl (⟨0, 0, 0, 0⟩ : Card) P (if gz0 P 2 = third (gz0 P 0) (gz0 P 1) then 3 else 2) = D)) := fun _ => by
      unfold fstT
      simp only [Prod.mk.injEq, Bool.decide_and, Bool.and_assoc]
      rfl
    rw [e 0]
    unfold eqd
    by_cases h2 : gl (⟨0, 0, 0, 0⟩ : Card) P 2 = third (gl (⟨0, 0, 0, 0⟩ : Card) P 0) (gl (⟨0, 0, 0, 0⟩ : Card) P 1)
    · rw [br_pos (decide_eq_true h2), lt_eq, show w64 (2 + 1) = 3 from by decide]
      have h2' : gz0 P 2 = third (gz0 P 0) (gz0 P 1) := h2
      rw [if_pos h2']
      exact J 3 (by omega)
    · rw [br_neg (decide_eq_false h2)]
      have h2' : ¬ gz0 P 2 = third (gz0 P 0) (gz0 P 1) := h2
      rw [if_neg h2']
      exact J 2 (by omega)) n (big_gt hn (by omega))
  have e0 : ((0 : Nat) : Int) = 0 := rfl
  simp only [e0] at L
  rw [L]
  have hh : (P.findIdx? fun d => !h.contains d).isSome = P.any fun d => !h.contains d := findIdx?_any _ _
  rw [← hh]
  cases P.findIdx? fun d => !h.contains d <;> rfl
def gS3 (h : List Card) (i j k : Nat) : Nat := b2 (Rs h (gl (⟨0, 0, 0, 0⟩ : Card) h i, gl (⟨0, 0, 0, 0⟩ : Card) h j, gl (⟨0, 0, 0, 0⟩ : Card) h k))
theorem gS3_le (h : List Card) (i j k : Nat) : gS3 h i j k ≤ 1 := by unfold gS3 b2; split <;> omega
theorem Rs_third {h : List Card} {a b c : Card} (hc : C3 a b c) (hr : Rs h (a, b, c) = true) : h.contains (third a b) = true ∧ third a b ≠ c := by
  unfold Rs Gd nl subB at hr
  simp only [Bool.and_eq_true, Bool.not_eq_true', decide_eq_false_iff_not] at hr
  refine ⟨List.all_eq_true.1 hr.1.2 _ (mem_sqL.2 ⟨2, by omega, ?_⟩), hr.1.1⟩
  obtain ⟨e0, e1, _⟩ := sq_0 hc
  have := sq_th hc (i := 0) (k := 1) (by omega) (by omega)
  rw [e0, e1] at this
  rw [this]; rfl
theorem s_CountPlanes_eq {n : Nat} (hn : BIG ≤ n) {h : List Card} (hl : h.length ≤ 1048576) : s_CountPlanes n h = some (CPl h) := by
  unfold s_CountPlanes CPl
  rw [s_l2Hand_eq hn (by omega), ob_some]
  cases hh : hand h with
  | false => rfl
  | true =>
    have h27 := hand_len hh
    have hc : AllC h := hand_all hh
    have hne : ∀ i k, i < h.length → k < h.length → i ≠ k → gl (⟨0, 0, 0, 0⟩ : Card) h i ≠ gl (⟨0, 0, 0, 0⟩ : Card) h k := fun i k hi hk hik => (HandL.of hh).ne hi hk hik
    rw [Bool.not_true, br_false, if_pos rfl]
    have g1 : ∀ i j m, up1 h.length m (gS3 h i j) ≤ 27 := fun i j m => by
      have := up1_le (N := h.length) (K := 1) (f := gS3 h i j) m fun k _ => gS3_le h i j k
      omega
    have g2 : ∀ i m, up1 h.length m (fun j => up1 h.length (j + 1) (gS3 h i j)) ≤ 729 := fun i m => by
      have := up1_le (N := h.length) (K := 27) (f := fun j => up1 h.length (j + 1) (gS3 h i j)) m fun j _ => g1 i j _
      omega
    have g3 : ∀ m, up1 h.length m (fun i => up1 h.length (i + 1) fun j => up1 h.length (j + 1) (gS3 h i j)) ≤ 19683 := fun m => by
      have := up1_le (N := h.length) (K := 729) (f := fun i => up1 h.length (i + 1) fun j => up1 h.length (j + 1) (gS3 h i j)) m fun i _ => g2 i _
      omega
    have L3 := fx_sum (B := s_CountPlanes_L3 n) h.length (fun i t => (h, t, (i : Int))) (fun i => up1 h.length (i + 1) fun j => up1 h.length (j + 1) (gS3 h i j)) (fun t => some (t, true)) 100000 (fun self3 i t hi ht hM => by
      have g2i := g2 i (i + 1)
      simp only [s_CountPlanes_L3, lt_eq]
      rw [br_pos (decide_eq_true (show (i : Int) < (h.length : Int) by omega)), w64_succ (by omega)]
      have L2 := fx_up (B := s_CountPlanes_L2 n self3) h.length (fun j (a : Int) => (h, a, (i : Int), (j : Int))) (fun j a => i + 1 ≤ j ∧ 0 ≤ a ∧ a + (up1 h.length j (fun j => up1 h.length (j + 1) (gS3 h i j)) : Nat) ≤ 200000) (fun j a => self3 (h, a + (up1 h.length j (fun j => up1 h.length (j + 1) (gS3 h i j)) : Nat), ((i + 1 : Nat) : Int))) (fun self2 j t hjN ⟨hij0, ht, hM⟩ ihj => by
       by_cases hj : j < h.length
       · have hcons2 := up1_cons hj (fun j => up1 h.length (j + 1) (gS3 h i j))
         have hij : i < j := by omega
         have g1j := g1 i j (j + 1)
         have ka := gl_C hc hi
         have kb := gl_C hc hj
         simp only [s_CountPlanes_L2, lt_eq]
         rw [br_pos (decide_eq_true (show (j : Int) < (h.length : Int) by omega)), ckb_pos (inb_ok hi), ckb_pos (inb_ok hj), toNat_cast, toNat_cast, s_l2Third_eq hn ka kb, ob_some, s_l2Has_eq hn (by omega), ob_some, w64_succ (by omega)]
         cases hth : h.contains (third (gl (⟨0, 0, 0, 0⟩ : Card) h i) (gl (⟨0, 0, 0, 0⟩ : Card) h j)) with
         | false =>
           have : up1 h.length (j + 1) (gS3 h i j) ≤ h.length * 0 := up1_le (j + 1) fun k hk => by
             unfold gS3
             cases hr : Rs h (gl (⟨0, 0, 0, 0⟩ : Card) h i, gl (⟨0, 0, 0, 0⟩ : Card) h j, gl (⟨0, 0, 0, 0⟩ : Card) h k) with
             | false => exact Nat.le_refl _
             | true =>
               have := (Rs_third ⟨ka, kb, gl_C hc hk⟩ hr).1
               rw [hth] at this; cases this
           rw [Bool.not_false, br_true, ihj t hj ⟨by omega, ht, by omega⟩, hcons2, show up1 h.length (j + 1) (gS3 h i j) = 0 by omega, Nat.zero_add]
         | true =>
           rw [Bool.not_true, br_false]
           have L1 := fx_up (B := s_CountPlanes_L1 n self2) h.length (fun k (a : Int) => (h, a, (i : Int), (j : Int), (k : Int), third (gl (⟨0, 0, 0, 0⟩ : Card) h i) (gl (⟨0, 0, 0, 0⟩ : Card) h j))) (fun k a => i < j ∧ j + 1 ≤ k ∧ 0 ≤ a ∧ a + (up1 h.length k (gS3 h i j) : Nat) ≤ 300000) (fun k a => self2 (h, a + (up1 h.length k (gS3 h i j) : Nat), (i : Int), ((j + 1 : Nat) : Int))) (fun self1 k a hk ⟨hij, hjk, ha0, haM⟩ ih => by
             simp only [s_CountPlanes_L1, lt_eq]
             by_cases h1 : k < h.length
             · have kc := gl_C hc h1
               have hcons := up1_cons h1 (gS3 h i j)
               rw [br_pos (decide_eq_true (show (k : Int) < (h.length : Int) by omega)), ckb_pos (inb_ok h1), toNat_cast, w64_succ (by omega)]
               have hg : (ob (br (!eqd (gl (⟨0, 0, 0, 0⟩ : Card) h k) (third (gl (⟨0, 0, 0, 0⟩ : Card) h i) (gl (⟨0, 0, 0, 0⟩ : Card) h j))) (ob (s_l6First n h (i : Int) (j : Int) (k : Int)) fun r14 => some r14) (some false)) fun x15 => some x15) = some (Rs h (gl (⟨0, 0, 0, 0⟩ : Card) h i, gl (⟨0, 0, 0, 0⟩ : Card) h j, gl (⟨0, 0, 0, 0⟩ : Card) h k)) := by
                 unfold eqd
                 by_cases e : gl (⟨0, 0, 0, 0⟩ : Card) h k = third (gl (⟨0, 0, 0, 0⟩ : Card) h i) (gl (⟨0, 0, 0, 0⟩ : Card) h j)
                 · rw [decide_eq_true e]
                   cases hr : Rs h (gl (⟨0, 0, 0, 0⟩ : Card) h i, gl (⟨0, 0, 0, 0⟩ : Card) h j, gl (⟨0, 0, 0, 0⟩ : Card) h k) with
                   | false => rfl
                   | true => exact absurd e.symm (Rs_third ⟨ka, kb, kc⟩ hr).2
                 · rw [decide_eq_false e, Bool.not_false, br_true, s_l6First_eq hn h27 hi hj h1 { kA := ka, kB := kb, kC := kc, ab := hne i j hi hj (by omega), ac := hne i k hi h1 (by omega), bc := hne j k hj h1 (by omega), th := fun h => e h.symm }]; rfl
               have hgs : gS3 h i j k = b2 (Rs h (gl (⟨0, 0, 0, 0⟩ : Card) h i, gl (⟨0, 0, 0, 0⟩ : Card) h j, gl (⟨0, 0, 0, 0⟩ : Card) h k)) := rfl
               have e2 : ∀ x : Opt Bool, (ob x fun x15 => some x15) = some (Rs h (gl (⟨0, 0, 0, 0⟩ : Card) h i, gl (⟨0, 0, 0, 0⟩ : Card) h j, gl (⟨0, 0, 0, 0⟩ : Card) h k)) → x = some (Rs h (gl (⟨0, 0, 0, 0⟩ : Card) h i, gl (⟨0, 0, 0, 0⟩ : Card) h j, gl (⟨0, 0, 0, 0⟩ : Card) h k)) := fun x hx => by
                 cases x with
                 | none => cases hx
                 | some x => exact hx
               rw [e2 _ hg, ob_some]
               cases hr : Rs h (gl (⟨0, 0, 0, 0⟩ : Card) h i, gl (⟨0, 0, 0, 0⟩ : Card) h j, gl (⟨0, 0, 0, 0⟩ : Card) h k) with
               | false =>
                 rw [hr] at hgs
                 have hgs : gS3 h i j k = 0 := hgs
                 rw [br_false, ih a h1 ⟨hij, by omega, ha0, by omega⟩, hcons, hgs, Nat.zero_add]
               | true =>
                 rw [hr] at hgs
                 have hgs : gS3 h i j k = 1 := hgs
                 rw [br_true, w64_id (by omega), ih (a + 1) h1 ⟨hij, by omega, by omega, by omega⟩, hcons, hgs]
                 congr 2
                 congr 1
                 omega
             · have : k = h.length := by omega
               subst this
               rw [br_neg (decide_eq_false (by omega)), up1_nil, w64_succ (by omega)]; simp) n (j + 1) t (by omega)
           refine (L1 ⟨hij, Nat.le_refl _, ht, by omega⟩ (big_gt hn (by omega))).trans ?_
           rw [ihj _ hj ⟨by omega, by omega, by omega⟩, hcons2]
           congr 2
           congr 1
           omega
       · have : j = h.length := by omega
         subst this
         simp only [s_CountPlanes_L2, lt_eq]
         rw [br_neg (decide_eq_false (by omega)), up1_nil, w64_succ (by omega)]; simp) n (i + 1) t (by omega) ⟨Nat.le_refl _, ht, by omega⟩ (big_gt hn (by omega))
      exact L2) (fun self3 t ht hM => by
      simp only [s_CountPlanes_L3]
      rw [br_neg (decide_eq_false (by omega))]) n 0 0 (Nat.zero_le _) (big_gt hn (by omega)) (Int.le_refl _) (by
      have : (((List.range' 0 (h.length - 0)).map fun i => up1 h.length (i + 1) fun j => up1 h.length (j + 1) (gS3 h i j)).sum) = up1 h.length 0 fun i => up1 h.length (i + 1) fun j => up1 h.length (j + 1) (gS3 h i j) := rfl
      rw [this]; have := g3 0; omega)
    have key : up1 h.length 0 (fun i => up1 h.length (i + 1) fun j => up1 h.length (j + 1) (gS3 h i j)) = (trips h).countP (Rs h) := by
      have := up3_drop (⟨0, 0, 0, 0⟩ : Card) h (Rs h) h.length 0 (by omega) (Nat.zero_le _)
      rw [List.drop_zero] at this
      exact this
    have e : (((List.range' 0 (h.length - 0)).map fun i => up1 h.length (i + 1) fun j => up1 h.length (j + 1) (gS3 h i j)).sum) = (trips h).countP (Rs h) := key
    rw [e, Int.zero_add] at L3
    exact L3
noncomputable def ckD2 (m : Nat) : Bool := (List.range 82).all fun f => match fx (s_l6Dimension_L1 (m + 10)) (m + 10) ((f : Int), -1) with
  | some r => decide (r = dm f)
  | none => false
theorem ckD2_ok (m : Nat) : ckD2 m = true := by kernel_rfl
theorem dim_ok2 {n : Nat} (hn : BIG ≤ n) {f : Nat} (hf : f < 82) : fx (s_l6Dimension_L1 n) n ((f : Int), -1) = some (dm f) := by
  obtain ⟨q, rfl⟩ : ∃ q, n = q + 10 := ⟨n - 10, by unfold BIG at hn; omega⟩
  have := ckD2_ok q
  unfold ckD2 at this
  rw [List.all_eq_true] at this
  have := this f (List.mem_range.2 hf)
  cases hi : fx (s_l6Dimension_L1 (q + 10)) (q + 10) ((f : Int), -1) with
  | none => rw [hi] at this; cases this
  | some a =>
    rw [hi] at this
    rw [of_decide_eq_true this]
structure SpF2 (n : Nat) (h F : List Card) : Prop where
  S : SpanR h F
  i1 : i_SpanOf n h = some (true, F)
  s1 : s_SpanOf n h = some (true, F)
  i2 : i_DimensionOf n h = some (dm F.length, true)
  s2 : s_DimensionOf n h = some (dm F.length, true)
  i3 : i_IsFlat n h = some (decide (0 < h.length) && decide (F.length = h.length), true)
  s3 : s_IsFlat n h = some (decide (0 < h.length) && decide (F.length = h.length), true)
theorem spF2 {n : Nat} (hn : BIG ≤ n) {h : List Card} (hh : hand h = true) : ∃ F, SpF2 n h F := by
  have h27 := hand_len hh
  obtain ⟨F, e1, e2, S⟩ := span_eq hn (hand_all hh) (by omega)
  have h81 := nodup_len81 S.ss.nodup S.c
  have c1 : decide (0 < (h.length : Int)) = decide (0 < h.length) := by congr 1; apply propext; omega
  have c2 : decide ((F.length : Int) = (h.length : Int)) = decide (F.length = h.length) := by congr 1; apply propext; omega
  refine ⟨F, ⟨S, ?_, ?_, i_DimensionOf_eq hn hh S, ?_, ?_, ?_⟩⟩
  · unfold i_SpanOf
    rw [i_IsHand_eq hn (by omega), ob_some, hh, Bool.not_true, br_false, e1]; rfl
  · unfold s_SpanOf
    rw [s_l2Hand_eq hn (by omega), ob_some, hh, Bool.not_true, br_false, e2]; rfl
  · unfold s_DimensionOf s_l6Dimension
    rw [s_l2Hand_eq hn (by omega), ob_some, hh, Bool.not_true, br_false, e2, ob_some, dim_ok2 hn (by omega)]; rfl
  · unfold i_IsFlat
    rw [i_IsHand_eq hn (by omega), ob_some, hh, Bool.not_true, br_false, e1, ob_some, c1, c2]
    cases decide (0 < h.length) <;> rfl
  · unfold s_IsFlat s_l6Flat
    rw [s_l2Hand_eq hn (by omega), ob_some, hh, Bool.not_true, br_false, e2, ob_some, c1, c2]
    cases decide (0 < h.length) <;> rfl
theorem spNo {n : Nat} (hn : BIG ≤ n) {h : List Card} (hl : h.length ≤ 29) (hh : hand h = false) : i_SpanOf n h = some (false, []) ∧ s_SpanOf n h = some (false, []) ∧ i_DimensionOf n h = some (0, false) ∧ s_DimensionOf n h = some (0, false) ∧ i_IsFlat n h = some (false, false) ∧ s_IsFlat n h = some (false, false) := by
  unfold i_SpanOf s_SpanOf i_DimensionOf s_DimensionOf i_IsFlat s_IsFlat
  rw [i_IsHand_eq hn (by omega), s_l2Hand_eq hn (by omega), hh]
  exact ⟨rfl, rfl, rfl, rfl, rfl, rfl⟩
theorem DrawSpanOf_ok {n : Nat} (hn : BIG ≤ n) {a : List Int} (ha : ByB a) : ∃ h, s_DrawSpanOf n a = some h ∧ h.length ≤ 29 := by
  unfold s_DrawSpanOf
  obtain ⟨c2, h, e2, hl, _⟩ := someHand_ok hn (cu0 ha) (by omega)
  rw [lt_eq, e2, ob_some]
  exact ⟨h, rfl, hl⟩
theorem DrawPlaneOf_ok {n : Nat} {a : List Int} (ha : ByB a) : ∃ x y z, s_DrawPlaneOf n a = some (x, y, z) := by
  unfold s_DrawPlaneOf
  obtain ⟨x, c1, e1, k1⟩ := card_ok n (cu0 ha) (by omega)
  rw [lt_eq, e1, ob_some]
  obtain ⟨y, c2, e2, k2⟩ := near_ok n x k1 (by omega)
  rw [e2, ob_some]
  obtain ⟨z, c3, e3, k3⟩ := near_ok n y k2 (by omega)
  rw [e3, ob_some]
  exact ⟨_, _, _, rfl⟩
theorem DrawCountFlats_ok {n : Nat} {a : List Int} (ha : ByB a) : ∃ d, s_DrawCountFlats n a = some d := by
  unfold s_DrawCountFlats
  obtain ⟨y, c2, e2, _⟩ := pick_ok n (cu0 ha) (by omega) (a := 7) (by omega)
  rw [lt_eq, e2, ob_some]
  exact ⟨_, rfl⟩
theorem fs_L2 {n : Nat} (hn : BIG ≤ n) {h F : List Card} (S : SpanR h F) : fx (v_FnSpans_L2 n) n (0, F) = some true := by
  have h81 := nodup_len81 S.ss.nodup S.c
  have HL := S.ss.handL S.c
  have := fx_cnt (B := v_FnSpans_L2 n) F.length (fun i => ((i : Int), F)) (fun _ => True) (fun _ => some true) (fun self i hi _ ih => by
    simp only [v_FnSpans_L2]
    by_cases h1 : i < F.length
    · have ih := ih h1 trivial
      rw [br_pos (decide_eq_true (show (i : Int) < (F.length : Int) by omega))]
      have L1 := fx_cnt (B := v_FnSpans_L1 n self) i (fun k => ((i : Int), (k : Int), F)) (fun _ => True) (fun _ => some true) (fun self1 k hk _ ih1 => by
        simp only [v_FnSpans_L1, lt_eq]
        by_cases h2 : k < i
        · have hne := HL.ne h1 (show k < F.length by omega) (by omega)
          have ki := gl_C S.c h1
          have kk := gl_C S.c (show k < F.length by omega)
          have e3 : T3 (gl (⟨0, 0, 0, 0⟩ : Card) F i) (gl (⟨0, 0, 0, 0⟩ : Card) F k) = (third (gl (⟨0, 0, 0, 0⟩ : Card) F i) (gl (⟨0, 0, 0, 0⟩ : Card) F k), true) := by
            unfold T3
            rw [ki, kk, decide_eq_false hne]; rfl
          have hm : third (gl (⟨0, 0, 0, 0⟩ : Card) F i) (gl (⟨0, 0, 0, 0⟩ : Card) F k) ∈ F := S.closed (mem_gl.2 ⟨i, h1, rfl⟩) (mem_gl.2 ⟨k, by omega, rfl⟩)
          rw [br_pos (decide_eq_true (show (k : Int) < (i : Int) by omega)), ckb_pos (inb_ok h1), ckb_pos (inb_ok (show k < F.length by omega)), toNat_cast, toNat_cast, i_ThirdCard_eq hn, ob_some, e3, v_rIn_eq hn (by omega), List.contains_iff_mem.2 hm, w64_succ (by omega)]
          exact ih1 h2 trivial
        · have : k = i := by omega
          subst this
          rw [br_neg (decide_eq_false (by omega)), w64_succ (by omega)]
          exact ih) n 0 (Nat.zero_le _) trivial (big_gt hn (by omega))
      exact L1
    · rw [br_neg (decide_eq_false (by omega))]) n 0 (Nat.zero_le _) trivial (big_gt hn (by omega))
  exact this
theorem fs_L3 {n : Nat} (hn : BIG ≤ n) {h F : List Card} (S : SpanR h F) : fx (v_FnSpans_L3 n) n (dm F.length, 1, 0, F) = some true := by
  have hp := span_pw S
  have L2 := fs_L2 hn S
  have hd := dm_bd F.length
  generalize hD : dm F.length = d at *
  obtain ⟨q, rfl⟩ : ∃ q, n = q + 6 := ⟨n - 6, by unfold BIG at hn; omega⟩
  have e1 : w64 (0 + 1) = 1 := by decide
  have e2 : w64 (1 + 1) = 2 := by decide
  have e3 : w64 (2 + 1) = 3 := by decide
  have e4 : w64 (3 + 1) = 4 := by decide
  have p1 : w64 (3 * 1) = 3 := by decide
  have p2 : w64 (3 * 3) = 9 := by decide
  have p3 : w64 (3 * 9) = 27 := by decide
  have p4 : w64 (3 * 27) = 81 := by decide
  unfold pw at hp
  rcases (show d = -1 ∨ d = 0 ∨ d = 1 ∨ d = 2 ∨ d = 3 ∨ d = 4 by omega) with rfl | rfl | rfl | rfl | rfl | rfl <;> simp at hp <;>
    simp [fx_succ, v_FnSpans_L3, e1, e2, e3, e4, p1, p2, p3, p4, hp, br] <;> first | exact L2 | (rw [hp] at L2; simp [fx_succ, br] at L2 ⊢; exact L2)
theorem fs_L5 {n : Nat} (hn : BIG ≤ n) {a b c : Card} (O : Opn a b c) (ok : Bool) (d : Int) (u w : List Card) (v : V9) (hv : ∀ i, i < 9 → VL.get (⟨0, 0, 0, 0⟩ : Card) v i = sq a b c i) {i : Nat} (hi : i < 9) (go : Bool × Int × Int × List Card × List Card × V9 → Opt Bool) (r : Opt Bool) (hgo : go (ok, d, ((i + 1 : Nat) : Int), u, w, v) = r) :
    fx (v_FnSpans_L5 n go) n (ok, d, (i : Int), 0, u, w, v) = r := by
  have xi : ∀ i : Nat, i < 9 → ∀ k : Nat, k < 9 → w64 (w64 (3 * Int.tmod (w64 (w64 (6 - w64 (Int.tdiv (i : Int) 3)) - w64 (Int.tdiv (k : Int) 3))) 3) + Int.tmod (w64 (w64 (6 - Int.tmod (i : Int) 3) - Int.tmod (k : Int) 3)) 3) = ((ix i k : Nat) : Int) := by decide +kernel
  have := fx_cnt (B := v_FnSpans_L5 n go) i (fun k => (ok, d, (i : Int), (k : Int), u, w, v)) (fun _ => True) (fun _ => r) (fun self k hk _ ih => by
    simp only [v_FnSpans_L5, lt_eq]
    by_cases h1 : k < i
    · have hk9 : k < 9 := by omega
      have hx := ix_lt i hi k hk9
      have e3 : I3 (sq a b c i) (sq a b c k) (sq a b c (ix i k)) = (true, true) := by
        unfold I3 lineB
        rw [sq_isC, sq_isC, sq_isC, sq_th O.toC3 hi hk9, decide_eq_false (fun e => by have := sq_inj O hi hk9 e; omega)]
        simp
      rw [br_pos (decide_eq_true (show (k : Int) < (i : Int) by omega)), ckb_pos (inb_ok hi), ckb_pos (inb_ok hk9), xi i hi k hk9, ckb_pos (inb_ok hx), toNat_cast, toNat_cast, toNat_cast, hv i hi, hv k hk9, hv _ hx, i_IsLine_eq hn, ob_some, e3, w64_succ (by omega)]
      exact ih h1 trivial
    · have : k = i := by omega
      subst this
      rw [br_neg (decide_eq_false (by omega)), w64_succ (by omega)]
      exact hgo) n 0 (Nat.zero_le _) trivial (big_gt hn (by omega))
  exact this
theorem fs_L6 {n : Nat} (hn : BIG ≤ n) {a b c : Card} (O : Opn a b c) (ok : Bool) (d : Int) (u : List Card) (hJ : v_FnSpans_J4 n (ok, d, u) = some true) :
    fx (v_FnSpans_L6 n) n (ok, d, 0, u, pln a b c, mqF a b c 9) = some true := by
  have hv := mqF_get O.toC3 9 (Nat.le_refl _)
  have hl := pln_len O
  have := fx_cnt (B := v_FnSpans_L6 n) 9 (fun i => (ok, d, (i : Int), u, pln a b c, mqF a b c 9)) (fun _ => True) (fun _ => some true) (fun self i hi _ ih => by
    simp only [v_FnSpans_L6]
    by_cases h1 : i < 9
    · have hm : sq a b c i ∈ pln a b c := pln_mem.2 (mem_sqL.2 ⟨i, h1, rfl⟩)
      rw [br_pos (decide_eq_true (show (i : Int) < 9 by omega)), ckb_pos (inb_ok h1), toNat_cast, hv i h1, v_rIn_eq hn (by omega), ob_some, List.contains_iff_mem.2 hm, Bool.not_true, br_false]
      exact fs_L5 hn O ok d u _ _ hv h1 self _ (ih h1 trivial)
    · have : i = 9 := by omega
      subst this
      rw [br_neg (decide_eq_false (by omega))]
      exact hJ) n 0 (Nat.zero_le _) trivial (big_gt hn (by omega))
  exact this
theorem v_rHand_self {n : Nat} (hn : BIG ≤ n) {L : List Card} (hL : L.length ≤ 1000000) : v_rHand n L L = some true := by
  have := v_vHands_eq hn (a := L) (b := L) (by omega)
  rw [decide_eq_true rfl] at this
  exact this
theorem law_FnSpans {n : Nat} (hn : BIG ≤ n) (a : List Int) (ok : (Ty.sl (.int .u8)).ok a) : v_FnSpans n a = some true := by
  have hb : ByB a := ok_bytes' ok
  unfold v_FnSpans v_rBig
  rw [ob_some, br_dec]
  split
  · rfl
  obtain ⟨h, e1, hl⟩ := DrawSpanOf_ok hn hb
  obtain ⟨x, y, z, e2⟩ := DrawPlaneOf_ok (n := n) hb
  obtain ⟨d, e3⟩ := DrawCountFlats_ok (n := n) hb
  obtain ⟨r, f1, f2⟩ := flats_eq n d
  have hCP : (CPl h).2 = hand h := by unfold CPl; cases hand h <;> rfl
  have hPOl : (PO x y z).2.length ≤ 9 := by
    unfold PO
    cases ho : opB x y z with
    | false => simp
    | true => exact Nat.le_of_eq (pln_len (opB_iff.1 ho))
  have hPM : (MQ x y z).2 = (PO x y z).1 := by unfold MQ PO; cases opB x y z <;> rfl
  have c2 : (ob (br (PO x y z).1 (some (!decide (((PO x y z).2.length : Int) = 9))) (some false)) fun x24 => some x24) = some false := by
    unfold PO
    cases ho : opB x y z with
    | false => rfl
    | true =>
      have := pln_len (opB_iff.1 ho)
      rw [if_pos rfl, br_true, decide_eq_true (show ((pln x y z).length : Int) = 9 by omega)]; rfl
  have hx : ∃ (b : Bool) (F : List Card) (dd : Int) (fl : Bool), b = hand h ∧ F.length ≤ 81 ∧ i_SpanOf n h = some (b, F) ∧ s_SpanOf n h = some (b, F) ∧ i_DimensionOf n h = some (dd, b) ∧ s_DimensionOf n h = some (dd, b) ∧ i_IsFlat n h = some (fl, b) ∧ s_IsFlat n h = some (fl, b) ∧
      (b = true → fl = (decide (0 < (h.length : Int)) && decide ((F.length : Int) = (h.length : Int)))) ∧ v_FnSpans_J4 n (b, dd, F) = some true := by
    cases hh : hand h with
    | false =>
      obtain ⟨s1, s2, s3, s4, s5, s6⟩ := spNo hn hl hh
      exact ⟨false, [], 0, false, rfl, by simp, s1, s2, s3, s4, s5, s6, fun h => (by cases h), rfl⟩
    | true =>
      obtain ⟨F, W⟩ := spF2 hn hh
      have h81 := nodup_len81 W.S.ss.nodup W.S.c
      refine ⟨true, F, dm F.length, _, rfl, h81, W.i1, W.s1, W.i2, W.s2, W.i3, W.s3, fun _ => ?_, ?_⟩
      · congr 1
        · congr 1; apply propext; omega
        · congr 1; apply propext; omega
      · unfold v_FnSpans_J4
        exact fs_L3 hn W.S
  obtain ⟨b, F, dd, fl, hbh, hF, s1, s2, s3, s4, s5, s6, hfl, hJ⟩ := hx
  have c1 : (ob (br b (ob (br (decide (0 < (h.length : Int))) (some (decide ((F.length : Int) = (h.length : Int)))) (some false)) fun x16 => some (! (fl == x16))) (some false)) fun x17 => some x17) = some false := by
    cases b with
    | false => rfl
    | true =>
      rw [hfl rfl]
      cases decide (0 < (h.length : Int)) <;> simp
  rw [e1, ob_some, s1, ob_some, s2, ob_some]
  simp only []
  rw [v_rHand_self hn (by omega)]
  simp only [beq_self_eq_true, Bool.not_true, br_false, ob_some]
  rw [s3, ob_some, s4, ob_some]
  simp only [decide_true, beq_self_eq_true, Bool.not_true, br_false, ob_some]
  rw [s5, ob_some, s6, ob_some]
  simp only [decide_true, beq_self_eq_true, Bool.not_true, br_false, ob_some]
  rw [c1, ob_some, br_false, e2, ob_some]
  simp only []
  rw [i_PlaneOf_eq hn, ob_some, s_PlaneOf_eq hn, ob_some, v_rHand_self hn (by omega)]
  simp only [beq_self_eq_true, Bool.not_true, br_false, ob_some]
  rw [c2, ob_some, br_false, i_MagicSquare_eq hn, ob_some, s_MagicSquare_eq hn, ob_some, hPM]
  simp only [eqd, decide_true, beq_self_eq_true, Bool.not_true, br_false, ob_some]
  rw [i_CountPlanes_eq hn (by omega), ob_some, s_CountPlanes_eq hn (by omega), ob_some, hCP, ← hbh]
  simp only [decide_true, beq_self_eq_true, Bool.not_true, br_false, ob_some]
  rw [e3, ob_some, f1, ob_some, f2, ob_some]
  simp only [decide_true, beq_self_eq_true, Bool.not_true, br_false, ob_some]
  cases ho : opB x y z with
  | false =>
    have : (PO x y z).1 = false := by unfold PO; rw [ho]; rfl
    rw [this, br_false]
    exact hJ
  | true =>
    have g1 : PO x y z = (true, pln x y z) := by unfold PO; rw [ho]; rfl
    have g2 : (MQ x y z).1 = mqF x y z 9 := by unfold MQ; rw [ho]; rfl
    rw [g1, g2, br_true]
    exact fs_L6 hn (opB_iff.1 ho) b dd F hJ
end Go.Pl

/- Plain laws: LHc, LFlt, R54. -/
import Derived.Test.YtbkbkaonjhlplaaGreatG8
import Derived.Test.YtbkbkaonjhlplaaGreatPL
import Derived.Test.YtbkbkaonjhlplaaGreatG7
import Derived.Test.YtbkbkaonjhlplaaGreatG6
set_option linter.unusedVariables false
set_option linter.unusedSimpArgs false
namespace Go.Pl
open Go Go.Tv Go.RowKit
set_option linter.unusedVariables false
set_option linter.unusedSimpArgs false

/-! cards behind a shadow, hidden cards -/
def SO (c : Card) (m : Int) : Card × Bool := if isC c && maskB m then (shadow m c, true) else (⟨0, 0, 0, 0⟩, false)
theorem i_ShadowOf_eq {n : Nat} (hn : BIG ≤ n) (c : Card) (m : Int) : i_ShadowOf n c m = some (SO c m) := by
  unfold i_ShadowOf SO
  rw [i_IsCard_eq hn, i_IsMask_eq, i_shadow_eq hn]
  cases isC c <;> cases maskB m <;> rfl
theorem s_ShadowOf_eq {n : Nat} (hn : BIG ≤ n) (c : Card) (m : Int) : s_ShadowOf n c m = some (SO c m) := by
  unfold s_ShadowOf SO
  rw [s_l2Card_eq hn, s_l11Mask_eq, s_l11Shadow_eq hn]
  cases isC c <;> cases maskB m <;> rfl
def CBh (h : List Card) (m : Int) (c : Card) : Int × Bool := if hand h && maskB m && isC c then (((h.map (shadow m)).count c : Int), true) else (0, false)
theorem cnt_take {L : List Card} {k : Nat} (hk : k < L.length) (c : Card) : (L.take (k + 1)).count c = (L.take k).count c + if L[k] = c then 1 else 0 := by
  rw [List.take_succ_eq_append_getElem hk, List.count_append, List.count_singleton]
  by_cases h : L[k] = c <;> simp [h]
theorem i_count {n : Nat} (hn : BIG ≤ n) {L : List Card} (hl : L.length ≤ 1000) (c : Card) : fx (i_CountBehind_L1 n) n (0, (L.length : Int), 0, c, L) = some ((L.count c : Int), true) := by
  have := fx_cnt (B := i_CountBehind_L1 n) L.length (fun k => (((L.take k).count c : Int), (L.length : Int), (k : Int), c, L)) (fun _ => True) (fun _ => some ((L.count c : Int), true)) (fun self k hk _ ih => by
    simp only [i_CountBehind_L1, lt_eq]
    by_cases h1 : k < L.length
    · have g : gl (⟨0, 0, 0, 0⟩ : Card) L k = L[k] := gl_eq h1
      have hcl : (L.take k).count c ≤ 1000 := Nat.le_trans List.count_le_length (by rw [List.length_take]; omega)
      have := ih h1 trivial
      rw [cnt_take h1] at this
      rw [br_pos (decide_eq_true (show (k : Int) < (L.length : Int) by omega)), ckb_pos (inb_ok h1), toNat_cast, g, w64_succ (k := k) (by omega), w64_succ (by omega)]
      unfold eqd
      by_cases hc : L[k] = c
      · rw [if_pos hc] at this
        rw [br_pos (decide_eq_true hc)]; exact this
      · rw [if_neg hc] at this
        rw [br_neg (decide_eq_false hc)]; exact this
    · have : k = L.length := by omega
      subst this
      rw [br_neg (decide_eq_false (by omega)), List.take_length]) n 0 (Nat.zero_le _) trivial (big_gt hn (by omega))
  simpa using this
theorem s_count {n : Nat} (hn : BIG ≤ n) {L : List Card} (hl : L.length ≤ 1000) (c : Card) : fx (s_CountBehind_L1 n) n (0, 0, c, L) = some ((L.count c : Int), true) := by
  have := fx_cnt (B := s_CountBehind_L1 n) L.length (fun k => (((L.take k).count c : Int), (k : Int), c, L)) (fun _ => True) (fun _ => some ((L.count c : Int), true)) (fun self k hk _ ih => by
    simp only [s_CountBehind_L1, lt_eq]
    by_cases h1 : k < L.length
    · have g : gl (⟨0, 0, 0, 0⟩ : Card) L k = L[k] := gl_eq h1
      have hcl : (L.take k).count c ≤ 1000 := Nat.le_trans List.count_le_length (by rw [List.length_take]; omega)
      have := ih h1 trivial
      rw [cnt_take h1] at this
      rw [br_pos (decide_eq_true (show (k : Int) < (L.length : Int) by omega)), ckb_pos (inb_ok h1), toNat_cast, g, w64_succ (k := k) (by omega), w64_succ (by omega)]
      unfold eqd
      by_cases hc : L[k] = c
      · rw [if_pos hc] at this
        rw [br_pos (decide_eq_true hc)]; exact this
      · rw [if_neg hc] at this
        rw [br_neg (decide_eq_false hc)]; exact this
    · have : k = L.length := by omega
      subst this
      rw [br_neg (decide_eq_false (by omega)), List.take_length]) n 0 (Nat.zero_le _) trivial (big_gt hn (by omega))
  simpa using this
theorem i_CountBehind_eq {n : Nat} (hn : BIG ≤ n) {h : List Card} (hl : h.length ≤ 1048576) (m : Int) (c : Card) : i_CountBehind n h m c = some (CBh h m c) := by
  unfold i_CountBehind CBh
  rw [i_IsHand_eq hn (by omega), i_IsMask_eq, i_IsCard_eq hn]
  cases hh : hand h with
  | false => rfl
  | true =>
    have := hand_len hh
    cases hm : maskB m with
    | false => rfl
    | true =>
      cases hc : isC c with
      | false => rfl
      | true =>
        rw [i_shadows_eq hn hl]
        simp only [ob_some, Bool.not_true, br_false]
        exact i_count hn (by rw [List.length_map]; omega) c
theorem s_CountBehind_eq {n : Nat} (hn : BIG ≤ n) {h : List Card} (hl : h.length ≤ 1048576) (m : Int) (c : Card) : s_CountBehind n h m c = some (CBh h m c) := by
  unfold s_CountBehind CBh
  rw [s_l2Hand_eq hn (by omega), s_l11Mask_eq, s_l2Card_eq hn]
  cases hh : hand h with
  | false => rfl
  | true =>
    have := hand_len hh
    cases hm : maskB m with
    | false => rfl
    | true =>
      cases hc : isC c with
      | false => rfl
      | true =>
        rw [s_l11All_eq hn hl]
        simp only [ob_some, Bool.not_true, br_false]
        exact s_count hn (by rw [List.length_map]; omega) c
theorem s_sum_step {n : Nat} (hn : BIG ≤ n) (go : List Card × Int × Card × Card → Opt Card) (h : List Card) (z : Card) {a : Card} {i : Nat} (hi : i < h.length) (hl : h.length ≤ 1000000) (hc : isC (gl (⟨0, 0, 0, 0⟩ : Card) h i) = true) (ha : isC a = true) :
    fx (s_l2Sum_L1 n go) n (h, (i : Int), 0, z, a) = go (h, (i : Int) + 1, z, ⟨(a.x0 + (gl (⟨0, 0, 0, 0⟩ : Card) h i).x0) % 3, (a.x1 + (gl (⟨0, 0, 0, 0⟩ : Card) h i).x1) % 3, (a.x2 + (gl (⟨0, 0, 0, 0⟩ : Card) h i).x2) % 3, (a.x3 + (gl (⟨0, 0, 0, 0⟩ : Card) h i).x3) % 3⟩) := by
  obtain ⟨m, rfl⟩ : ∃ m, n = m + 5 := ⟨n - 5, by unfold BIG at hn; omega⟩
  rw [isC_iff] at hc ha
  have hin : inb (i : Int) h.length = true := inb_ok hi
  simp only [lt_eq, fx_succ, s_l2Sum_L1, hin, toNat_cast]
  generalize gl (⟨0, 0, 0, 0⟩ : Card) h i = c at hc ⊢
  simp [V4.get, V4.set, show inb 0 4 = true from rfl, show inb 1 4 = true from rfl, show inb 2 4 = true from rfl, show inb 3 4 = true from rfl, show w64 1 = 1 from by decide, show w64 (1 + 1) = 2 from by decide, show w64 (2 + 1) = 3 from by decide, show w64 (3 + 1) = 4 from by decide]
  rw [w64_id (x := a.x0 + c.x0) (by omega), w64_id (x := a.x1 + c.x1) (by omega), w64_id (x := a.x2 + c.x2) (by omega), w64_id (x := a.x3 + c.x3) (by omega), w64_id (x := (i : Int) + 1) (by omega), Int.tmod_eq_emod_of_nonneg (by omega), Int.tmod_eq_emod_of_nonneg (by omega), Int.tmod_eq_emod_of_nonneg (by omega), Int.tmod_eq_emod_of_nonneg (by omega)]
theorem s_l2Sum_eq {n : Nat} (hn : BIG ≤ n) {h : List Card} (hc : AllC h) (hl : h.length ≤ 1000) : s_l2Sum n h = some (sumC h) := by
  unfold s_l2Sum
  rw [lt_eq]
  have := fx_cnt (B := s_l2Sum_L2 n) h.length (fun i => (h, (i : Int), (⟨0, 0, 0, 0⟩ : Card), sumC (h.take i))) (fun _ => True) (fun _ => some (sumC h)) (fun self i hi _ ih => by
    simp only [s_l2Sum_L2]
    by_cases h1 : i < h.length
    · have g : gl (⟨0, 0, 0, 0⟩ : Card) h i = h[i] := gl_eq h1
      rw [br_pos (decide_eq_true (show (i : Int) < (h.length : Int) by omega)), s_sum_step hn self _ _ h1 (by omega) (gl_C hc h1) (sumC_isC _), ← ih h1 trivial, List.take_succ_eq_append_getElem h1, sumC_snoc, g]
      rfl
    · have : i = h.length := by omega
      subst this
      rw [br_neg (decide_eq_false (by omega)), List.take_length]) n 0 (Nat.zero_le _) trivial (big_gt hn (by omega))
  exact this
def hid (s t : Card) : Card := ⟨(s.x0 - t.x0 + 3) % 3, (s.x1 - t.x1 + 3) % 3, (s.x2 - t.x2 + 3) % 3, (s.x3 - t.x3 + 3) % 3⟩
def HC (h : List Card) (s : Card) : Card × Bool := if hand h && isC s && !h.contains (hid s (sumC h)) then (hid s (sumC h), true) else (⟨0, 0, 0, 0⟩, false)
theorem i_hid {n : Nat} (hn : BIG ≤ n) {h : List Card} {s t : Card} (z : Card) (hs : isC s = true) (ht : isC t = true) : fx (i_HiddenCard_L1 n) n (h, 0, s, z, ⟨0, 0, 0, 0⟩, t) = ob (i_has n h (hid s t)) fun r16 => br r16 (some (⟨0, 0, 0, 0⟩, false)) (some (hid s t, true)) := by
  obtain ⟨m, rfl⟩ : ∃ m, n = m + 5 := ⟨n - 5, by unfold BIG at hn; omega⟩
  rw [isC_iff] at hs ht
  simp only [lt_eq, fx_succ, i_HiddenCard_L1]
  simp [V4.get, V4.set, show inb 0 4 = true from rfl, show inb 1 4 = true from rfl, show inb 2 4 = true from rfl, show inb 3 4 = true from rfl, show w64 1 = 1 from by decide, show w64 (1 + 1) = 2 from by decide, show w64 (2 + 1) = 3 from by decide, show w64 (3 + 1) = 4 from by decide]
  rw [w64_id (x := s.x0 - t.x0) (by omega), w64_id (x := s.x1 - t.x1) (by omega), w64_id (x := s.x2 - t.x2) (by omega), w64_id (x := s.x3 - t.x3) (by omega), w64_id (x := s.x0 - t.x0 + 3) (by omega), w64_id (x := s.x1 - t.x1 + 3) (by omega), w64_id (x := s.x2 - t.x2 + 3) (by omega), w64_id (x := s.x3 - t.x3 + 3) (by omega), Int.tmod_eq_emod_of_nonneg (by omega), Int.tmod_eq_emod_of_nonneg (by omega), Int.tmod_eq_emod_of_nonneg (by omega), Int.tmod_eq_emod_of_nonneg (by omega)]
  rfl
theorem s_hid {n : Nat} (hn : BIG ≤ n) {h : List Card} {s t : Card} (z : Card) (hs : isC s = true) (ht : isC t = true) : fx (s_HiddenCard_L1 n) n (h, 0, s, z, t, ⟨0, 0, 0, 0⟩) = ob (s_l2Has n h (hid s t)) fun r16 => br r16 (some (⟨0, 0, 0, 0⟩, false)) (some (hid s t, true)) := by
  obtain ⟨m, rfl⟩ : ∃ m, n = m + 5 := ⟨n - 5, by unfold BIG at hn; omega⟩
  rw [isC_iff] at hs ht
  simp only [lt_eq, fx_succ, s_HiddenCard_L1]
  simp [V4.get, V4.set, show inb 0 4 = true from rfl, show inb 1 4 = true from rfl, show inb 2 4 = true from rfl, show inb 3 4 = true from rfl, show w64 1 = 1 from by decide, show w64 (1 + 1) = 2 from by decide, show w64 (2 + 1) = 3 from by decide, show w64 (3 + 1) = 4 from by decide]
  rw [w64_id (x := s.x0 - t.x0) (by omega), w64_id (x := s.x1 - t.x1) (by omega), w64_id (x := s.x2 - t.x2) (by omega), w64_id (x := s.x3 - t.x3) (by omega), w64_id (x := s.x0 - t.x0 + 3) (by omega), w64_id (x := s.x1 - t.x1 + 3) (by omega), w64_id (x := s.x2 - t.x2 + 3) (by omega), w64_id (x := s.x3 - t.x3 + 3) (by omega), Int.tmod_eq_emod_of_nonneg (by omega), Int.tmod_eq_emod_of_nonneg (by omega), Int.tmod_eq_emod_of_nonneg (by omega), Int.tmod_eq_emod_of_nonneg (by omega)]
  rfl
theorem i_HiddenCard_eq {n : Nat} (hn : BIG ≤ n) {h : List Card} (hl : h.length ≤ 1048576) (s : Card) : i_HiddenCard n h s = some (HC h s) := by
  unfold i_HiddenCard HC
  rw [i_IsHand_eq hn (by omega), i_IsCard_eq hn]
  cases hh : hand h with
  | false => rfl
  | true =>
    have := hand_len hh
    cases hc : isC s with
    | false => rfl
    | true =>
      simp only [ob_some, Bool.not_true, br_false, lt_eq]
      rw [i_sum_eq hn (hand_all hh) (by omega), ob_some, i_hid hn _ hc (sumC_isC h), i_has_eq hn (by omega), ob_some]
      cases h.contains (hid s (sumC h)) <;> rfl
theorem s_HiddenCard_eq {n : Nat} (hn : BIG ≤ n) {h : List Card} (hl : h.length ≤ 1048576) (s : Card) : s_HiddenCard n h s = some (HC h s) := by
  unfold s_HiddenCard HC
  rw [s_l2Hand_eq hn (by omega), s_l2Card_eq hn]
  cases hh : hand h with
  | false => rfl
  | true =>
    have := hand_len hh
    cases hc : isC s with
    | false => rfl
    | true =>
      simp only [ob_some, Bool.not_true, br_false, lt_eq]
      rw [s_l2Sum_eq hn (hand_all hh) (by omega), ob_some, s_hid hn _ hc (sumC_isC h), s_l2Has_eq hn (by omega), ob_some]
      cases h.contains (hid s (sumC h)) <;> rfl

/-! shadows of lines, all cards behind shadows -/
theorem sh_third {m : Int} {a b : Card} : third (shadow m a) (shadow m b) = shadow m (third a b) := by
  have key : ∀ i x y : Int, t3 (sh m i x) (sh m i y) = sh m i (t3 x y) := fun i x y => by
    unfold sh
    split
    · rfl
    · rfl
  unfold third shadow
  simp only [key]
theorem count_sum : ∀ {S L : List Card}, S.Nodup → (∀ c ∈ L, c ∈ S) → (S.map fun c => L.count c).sum = L.length
  | S, [], _, _ => by
    have : (S.map fun c => ([] : List Card).count c) = S.map fun _ => 0 := List.map_congr_left fun c _ => List.count_nil
    rw [this, List.length_nil]
    clear this
    induction S with
    | nil => rfl
    | cons a S ih => rw [List.map_cons, List.sum_cons, ih (by simp_all) (by simp)]
  | S, a :: L, hS, hL => by
    have ih := count_sum (S := S) (L := L) hS fun c hc => hL c (List.mem_cons_of_mem _ hc)
    have e : (S.map fun c => (a :: L).count c) = S.map fun c => L.count c + if a = c then 1 else 0 := List.map_congr_left fun c _ => by
      rw [List.count_cons]
      by_cases h : a = c <;> simp [h]
    have e2 : ∀ (S : List Card) (f g : Card → Nat), (S.map fun c => f c + g c).sum = (S.map f).sum + (S.map g).sum := by
      intro S f g
      induction S with
      | nil => rfl
      | cons x S ih => rw [List.map_cons, List.sum_cons, List.map_cons, List.sum_cons, List.map_cons, List.sum_cons, ih]; omega
    have e3 : ∀ (S : List Card), S.Nodup → (S.map fun c => if a = c then 1 else 0).sum = if a ∈ S then 1 else 0 := by
      intro S hS
      induction S with
      | nil => rfl
      | cons x S ih =>
        obtain ⟨h1, h2⟩ := List.nodup_cons.1 hS
        rw [List.map_cons, List.sum_cons, ih h2]
        by_cases hx : a = x
        · subst hx; rw [if_pos rfl, if_neg h1, if_pos List.mem_cons_self]
        · rw [if_neg hx]
          by_cases hm : a ∈ S
          · rw [if_pos hm, if_pos (List.mem_cons_of_mem _ hm)]
          · rw [if_neg hm, if_neg (by simp [hx, hm])]
    rw [e, e2, ih, e3 S hS, if_pos (hL a List.mem_cons_self), List.length_cons]
end Go.Pl
namespace Go.Pl
open Go Go.Tv Go.RowKit
set_option linter.unusedVariables false

/-! drawn flats -/
theorem flat_J1 {n : Nat} {m : Nat} {c : Cu} (hc : CuOK m c) (hm : m < 4611686018427300000) {h : List Card} (hl : h.length ≤ 27) (b : Bool) (hb : b = true → 0 < h.length) : HandR n (m + 2) (s_Cur_flat'p_J1 n (b, c, h)) := by
  unfold s_Cur_flat'p_J1
  cases b with
  | false => exact ⟨c, h, rfl, by omega, hc.mono (by omega)⟩
  | true =>
    have := hb rfl
    simp only [br_true]
    obtain ⟨i, c1, e1, k1, i0, i1⟩ := pick_ok n hc (by omega) (a := (h.length : Int)) (by omega)
    rw [e1, ob_some, s_l2Drop_ok (by omega) i0 i1, ob_some]
    exact ⟨_, _, rfl, by rw [List.length_append, List.length_take, List.length_drop]; omega, k1⟩
theorem flat_L2 {n : Nat} (hn : BIG ≤ n) {m : Nat} {c : Cu} (hc : CuOK m c) (hm : m + 200 < 4611686018427300000) {h : List Card} (hl : h.length ≤ 81) : HandR n (m + 180) (fx (s_Cur_flat'p_L2 n) n (c, h)) := by
  refine fx_inv (B := s_Cur_flat'p_L2 n) (fun s => s.2.length ≤ 81 ∧ CuOK (m + 2 * (81 - s.2.length)) s.1) (fun s => s.2.length) (HandR n (m + 180)) ?_ n _ ⟨hl, hc.mono (by omega)⟩ (big_gt hn (by simp only []; omega))
  rintro self ⟨c, h⟩ ⟨hl, hc⟩ ih
  simp only [] at hl hc
  simp only [s_Cur_flat'p_L2]
  by_cases h27 : 27 < h.length
  · rw [br_pos (decide_eq_true (by omega))]
    obtain ⟨i, c1, e1, k1, i0, i1⟩ := pick_ok n hc (by omega) (a := (h.length : Int)) (by omega)
    have hlen : (h.take i.toNat ++ h.drop (i.toNat + 1)).length + 1 = h.length := by rw [List.length_append, List.length_take, List.length_drop]; omega
    rw [e1, ob_some, s_l2Drop_ok (by omega) i0 i1, ob_some]
    exact ih _ ⟨by simp only []; omega, k1.mono (by simp only []; omega)⟩ (by simp only []; omega)
  · rw [br_neg (decide_eq_false (by omega)), br_dec]
    split
    · obtain ⟨x, c1, e1, k1⟩ := one_ok n hc (by omega) (a := 3) (by omega)
      rw [e1, ob_some]
      obtain ⟨c', h', e, hl', k⟩ := flat_J1 (n := n) k1 (by omega) (h := h) (by omega) x (fun _ => by omega)
      exact ⟨c', h', e, hl', k.mono (by omega)⟩
    · obtain ⟨c', h', e, hl', k⟩ := flat_J1 (n := n) hc (by omega) (h := h) (by omega) false (fun h => by cases h)
      exact ⟨c', h', e, hl', k.mono (by omega)⟩
theorem flat_ok {n : Nat} (hn : BIG ≤ n) {m : Nat} {c : Cu} (hc : CuOK m c) (hm : m + 300 < 4611686018427300000) : HandR n (m + 200) (s_Cur_flat'p n c) := by
  unfold s_Cur_flat'p
  obtain ⟨q, c1, e1, k1, hq⟩ := among_ok n hc (by omega) (l := [3, 2, 1, 4]) (by decide)
  have hq' := mem_small hq 1 4 (by decide)
  rw [e1, ob_some]
  refine fx_inv (B := s_Cur_flat'p_L3 n) (fun s => ∃ (q : Int) (c : Cu) (h : List Card), s = (q, c, h) ∧ 0 ≤ q ∧ q ≤ 4 ∧ (h.length : Int) ≤ 4 - q ∧ AllC h ∧ CuOK (m + 2 + 2 * (4 - q.toNat)) c) (fun s => s.1.toNat) (HandR n (m + 200)) ?_ n _ ⟨q, c1, [], rfl, by omega, hq'.2, by simp; omega, fun c hc => (by cases hc), k1.mono (by omega)⟩ (big_gt hn (by simp only []; omega))
  clear hq hq' e1 k1 c1 q
  rintro self _ ⟨q, c, h, rfl, q0, q4, hl, ha, hc⟩ ih
  simp only [s_Cur_flat'p_L3]
  by_cases h0 : 0 < q
  · rw [br_pos (decide_eq_true h0)]
    obtain ⟨r, c3, e3, k3, r0, r1⟩ := pick_ok n hc (by omega) (a := 81) (by omega)
    have hx : isC (cardAt r) = true := cardAt_isC (by omega)
    rw [e3, ob_some, s_l2At_eq n (by omega), ob_some, s_l2Put_eq hn ha (by omega) hx, ob_some, lt_eq, w64_id (by omega)]
    have := ins_len (c := cardAt r) (l := h)
    exact ih _ ⟨q - 1, c3, _, rfl, by omega, by omega, by omega, ins_allC hx ha, k3.mono (by omega)⟩ (by simp only []; omega)
  · rw [br_neg (decide_eq_false h0)]
    obtain ⟨r, e, R⟩ := s_l6Span_ok hn ha (by omega)
    rw [e, ob_some]
    obtain ⟨c', h', e', hl', k⟩ := flat_L2 hn hc (by omega) (nodup_len81 R.ss.nodup R.c)
    exact ⟨c', h', e', hl', k.mono (by omega)⟩
theorem someHand_ok {n : Nat} (hn : BIG ≤ n) {m : Nat} {c : Cu} (hc : CuOK m c) (hm : m + 400 < 4611686018427300000) : HandR n (m + 300) (s_Cur_someHand'p n c) := by
  unfold s_Cur_someHand'p
  obtain ⟨x, c1, e1, k1⟩ := one_ok n hc (by omega) (a := 2) (by omega)
  rw [e1, ob_some]
  cases x with
  | true =>
    obtain ⟨c', h', e', hl', k⟩ := flat_ok hn k1 (by omega)
    rw [br_true, e', ob_some]
    exact ⟨c', h', rfl, hl', k.mono (by omega)⟩
  | false =>
    obtain ⟨c', h', e', hl', k⟩ := hand_ok hn k1 (by omega)
    rw [br_false, e', ob_some]
    exact ⟨c', h', rfl, hl', k.mono (by omega)⟩
end Go.Pl
namespace Go.Pl
open Go Go.Tv Go.RowKit
set_option linter.unusedVariables false
set_option linter.unusedSimpArgs false

theorem v_rIn_eq {n : Nat} (hn : BIG ≤ n) {a : List Card} (hl : a.length ≤ 1000000) (x : Card) : v_rIn n a x = some (a.contains x) := by
  unfold v_rIn
  have := fx_cnt (B := v_rIn_L1 n) a.length (fun i => (a, (i : Int), x)) (fun _ => True) (fun i => some ((a.drop i).contains x)) (fun self i hi _ ih => by
    simp only [v_rIn_L1]
    by_cases h : i < a.length
    · have g : gl (⟨0, 0, 0, 0⟩ : Card) a i = a[i] := gl_eq h
      rw [br_pos (decide_eq_true (show (i : Int) < (a.length : Int) by omega)), ckb_pos (inb_ok h), toNat_cast, g, lt_eq, w64_succ (by omega)]
      rw [List.drop_eq_getElem_cons h, List.contains_cons]
      unfold eqd
      by_cases hc : a[i] = x
      · rw [br_pos (decide_eq_true hc)]; simp [hc]
      · rw [br_neg (decide_eq_false hc), ih h trivial]
        have : (x == a[i]) = false := by simpa [beq_eq_false_iff_ne] using fun e => hc (Eq.symm e)
        rw [this, Bool.false_or]
    · rw [br_neg (decide_eq_false (by omega)), List.drop_eq_nil_of_le (by omega)]; rfl) n 0 (Nat.zero_le _) trivial (big_gt hn (by omega))
  simpa using this

theorem v_rHand_eq4 {n : Nat} (hn : BIG ≤ n) {a b : List Card} (hl : a.length ≤ 9223372036854775806) : v_rHand n a b = some (decide (a = b)) := v_vHands_eq hn hl

/-! draws -/
theorem mask_ok {n : Nat} {m : Nat} {c : Cu} (hc : CuOK m c) (hm : m + 10 < 4611686018427300000) : ∃ r c', s_Cur_mask'p n c = some (r, c') ∧ CuOK (m + 4) c' := by
  unfold s_Cur_mask'p
  obtain ⟨x, c1, e1, k1⟩ := one_ok n hc (by omega) (a := 30) (by omega)
  rw [e1, ob_some]
  cases x with
  | true =>
    simp only [br_true]
    obtain ⟨y, c2, e2, k2, _⟩ := among_ok n k1 (by omega) (l := [0, 16, (-1)]) (by decide)
    rw [e2, ob_some]
    exact ⟨_, _, rfl, k2⟩
  | false =>
    simp only [br_false, lt_eq]
    obtain ⟨y, c2, e2, k2, _⟩ := pick_ok n k1 (by omega) (a := 15) (by omega)
    rw [e2, ob_some]
    exact ⟨_, _, rfl, k2⟩
theorem DrawShadowHand_ok {n : Nat} (hn : BIG ≤ n) {a : List Int} (ha : ByB a) : ∃ m h, s_DrawShadowHand n a = some (m, h) ∧ h.length ≤ 29 := by
  unfold s_DrawShadowHand
  obtain ⟨m, c1, e1, k1⟩ := mask_ok (n := n) (cu0 ha) (by omega)
  rw [lt_eq, e1, ob_some]
  obtain ⟨c2, h, e2, hl, k2⟩ := someHand_ok hn k1 (by omega)
  rw [e2, ob_some]
  exact ⟨_, _, rfl, hl⟩
theorem DrawShadowOf_ok {n : Nat} {a : List Int} (ha : ByB a) : ∃ c m, s_DrawShadowOf n a = some (c, m) := by
  unfold s_DrawShadowOf
  obtain ⟨m, c1, e1, k1⟩ := mask_ok (n := n) (cu0 ha) (by omega)
  rw [lt_eq, e1, ob_some]
  obtain ⟨c, c2, e2, k2⟩ := card_ok n k1 (by omega)
  rw [e2, ob_some]
  exact ⟨_, _, rfl⟩
theorem DrawCountBehind_ok {n : Nat} (hn : BIG ≤ n) {a : List Int} (ha : ByB a) : ∃ m c h, s_DrawCountBehind n a = some (m, c, h) ∧ h.length ≤ 29 := by
  unfold s_DrawCountBehind
  obtain ⟨m, c1, e1, k1⟩ := mask_ok (n := n) (cu0 ha) (by omega)
  rw [lt_eq, e1, ob_some]
  obtain ⟨c2, h, e2, hl, k2⟩ := someHand_ok hn k1 (by omega)
  rw [e2, ob_some]
  obtain ⟨c, c3, e3, k3⟩ := cardOf_ok (n := n) k2 (by omega) h
  rw [e3, ob_some]
  simp only []
  rw [s_l2Card_eq hn, ob_some]
  have J2 : ∀ (b : Bool) (z : Card), ∃ m' c' h', s_DrawCountBehind_J2 n (m, b, z, h, c) = some (m', c', h') ∧ h'.length ≤ 29 := by
    intro b z
    unfold s_DrawCountBehind_J2 s_DrawCountBehind_J1
    cases b with
    | true => simp only [br_true]; rw [s_l11Shadow_eq hn]; exact ⟨_, _, _, rfl, hl⟩
    | false => simp only [br_false]; exact ⟨_, _, _, rfl, hl⟩
  cases isC c with
  | true =>
    rw [br_true]
    obtain ⟨x, c4, e4, k4⟩ := one_ok n k3 (by omega) (a := 4) (by omega)
    rw [e4, ob_some]
    exact J2 _ _
  | false => rw [br_false]; exact J2 _ _
theorem DrawLeastMask_ok {n : Nat} (hn : BIG ≤ n) {a : List Int} (ha : ByB a) : ∃ h, s_DrawLeastMask n a = some h ∧ h.length ≤ 29 := by
  unfold s_DrawLeastMask
  obtain ⟨x, c1, e1, k1⟩ := one_ok n (cu0 ha) (by omega) (a := 3) (by omega)
  rw [lt_eq, e1, ob_some]
  cases x with
  | true =>
    simp only [br_true]
    obtain ⟨c2, h, e2, hl, k2⟩ := someHand_ok hn k1 (by omega)
    rw [e2, ob_some]
    exact ⟨_, rfl, hl⟩
  | false =>
    simp only [br_false, lt_eq]
    obtain ⟨y, c2, e2, k2, y0, y1⟩ := pick_ok n k1 (by omega) (a := 15) (by omega)
    rw [e2, ob_some]
    obtain ⟨z, c3, e3, k3, z0, z1⟩ := pick_ok n k2 (by omega) (a := 7) (by omega)
    rw [e3, ob_some]
    simp only []
    rw [w64_id (x := 1 + z) (by omega)]
    refine fx_inv (B := s_DrawLeastMask_L1 n) (fun s => ∃ (mk q : Int) (c : Cu) (h : List Card), s = (mk, q, c, h) ∧ 0 ≤ q ∧ q ≤ 7 ∧ (h.length : Int) ≤ 7 - q ∧ AllC h ∧ CuOK (20 + 2 * (7 - q.toNat)) c) (fun s => s.2.1.toNat) (fun o => ∃ h, o = some h ∧ h.length ≤ 29) ?_ n _ ⟨_, 1 + z, c3, [], rfl, by omega, by omega, by simp; omega, fun c hc => (by cases hc), k3.mono (by omega)⟩ (big_gt hn (by simp only []; omega))
    rintro self _ ⟨mk, q, c, h, rfl, q0, q7, hl, hA, hc⟩ ih
    simp only [s_DrawLeastMask_L1]
    by_cases h0 : 0 < q
    · rw [br_pos (decide_eq_true h0)]
      obtain ⟨r, c4, e4, k4, r0, r1⟩ := pick_ok n hc (by omega) (a := 81) (by omega)
      have hx : isC (shadow mk (cardAt r)) = true := shadow_isC (cardAt_isC (by omega))
      rw [e4, ob_some, s_l2At_eq n (by omega), ob_some, s_l11Shadow_eq hn, ob_some, s_l2Put_eq hn hA (by omega) hx, ob_some, lt_eq, w64_id (by omega)]
      have := ins_len (c := shadow mk (cardAt r)) (l := h)
      exact ih _ ⟨mk, q - 1, c4, _, rfl, by omega, by omega, by omega, ins_allC hx hA, k4.mono (by omega)⟩ (by simp only []; omega)
    · rw [br_neg (decide_eq_false h0)]
      exact ⟨h, rfl, by omega⟩
theorem DrawHiddenCard_ok {n : Nat} (hn : BIG ≤ n) {a : List Int} (ha : ByB a) : ∃ c h, s_DrawHiddenCard n a = some (c, h) ∧ h.length ≤ 29 := by
  unfold s_DrawHiddenCard
  obtain ⟨c1, h, e1, hl, k1⟩ := hand_ok hn (cu0 ha) (by omega)
  rw [lt_eq, e1, ob_some]
  obtain ⟨c, c2, e2, k2⟩ := card_ok n k1 (by omega)
  rw [e2, ob_some]
  exact ⟨_, _, rfl, hl⟩

/-! the law -/
theorem shd_L1 {n : Nat} (hn : BIG ≤ n) {h : List Card} (hh : hand h = true) {m : Int} (hm : maskB m = true) : fx (v_FnShadows_L1 n) n (m, 0, h, linesOf h) = some true := by
  have H := HandL.of hh
  have hl := hand_len hh
  have h729 := lines_len27 hh
  have hmem : ∀ x ∈ linesOf h, ∃ i j k : Nat, x = ⟨(i : Int), (j : Int), (k : Int)⟩ ∧ LineAt h i j k := fun x hx => (mem_lines H).1 hx
  generalize linesOf h = L at h729 hmem
  have := fx_cnt (B := v_FnShadows_L1 n) L.length (fun q => (m, (q : Int), h, L)) (fun _ => True) (fun _ => some true) (fun self q hq _ ih => by
    simp only [v_FnShadows_L1, lt_eq]
    by_cases h1 : q < L.length
    · obtain ⟨i, j, k, e, LA⟩ := hmem _ (List.getElem_mem h1)
      have a1 := LA.ij; have a2 := LA.jk; have a3 := LA.kl
      have g : gl (⟨0, 0, 0⟩ : V3 Int) L q = ⟨(i : Int), (j : Int), (k : Int)⟩ := by rw [gl_eq h1, e]
      have ci : isC (gl (⟨0, 0, 0, 0⟩ : Card) h i) = true := gl_C H.c (by omega)
      have cj : isC (gl (⟨0, 0, 0, 0⟩ : Card) h j) = true := gl_C H.c (by omega)
      have ck : isC (gl (⟨0, 0, 0, 0⟩ : Card) h k) = true := gl_C H.c (by omega)
      have et : third (gl (⟨0, 0, 0, 0⟩ : Card) h i) (gl (⟨0, 0, 0, 0⟩ : Card) h j) = gl (⟨0, 0, 0, 0⟩ : Card) h k := LA.e
      rw [br_pos (decide_eq_true (show (q : Int) < (L.length : Int) by omega)), ckb_pos (inb_ok h1), toNat_cast, g]
      simp only [toNat_cast]
      rw [ckb_pos (inb_ok (show i < h.length by omega)), i_ShadowOf_eq hn, ob_some, ckb_pos (inb_ok h1), ckb_pos (inb_ok (show j < h.length by omega)), i_ShadowOf_eq hn, ob_some, ckb_pos (inb_ok h1), ckb_pos (inb_ok (show k < h.length by omega)), i_ShadowOf_eq hn, ob_some]
      generalize gl (⟨0, 0, 0, 0⟩ : Card) h i = a at ci et ⊢
      generalize gl (⟨0, 0, 0, 0⟩ : Card) h j = b at cj et ⊢
      generalize gl (⟨0, 0, 0, 0⟩ : Card) h k = c at ck et ⊢
      have so : ∀ c, isC c = true → SO c m = (shadow m c, true) := fun c hc => by unfold SO; rw [hc, hm]; rfl
      rw [so a ci, so b cj, so c ck]
      simp only []
      rw [i_IsLine_eq hn, ob_some, w64_succ (by omega)]
      have ei : I3 (shadow m a) (shadow m b) (shadow m c) = (!decide (shadow m a = shadow m b), true) := by
        unfold I3
        rw [shadow_isC ci, shadow_isC cj, shadow_isC ck]
        unfold lineB
        rw [← et, sh_third]; simp
      rw [ei]
      simp only [Bool.not_true, br_false, ob_some, Bool.not_not]
      by_cases hab : shadow m a = shadow m b
      · have hbc : shadow m b = shadow m c := by
          rw [← et, ← sh_third, hab, th_self (shadow_isC cj)]
        simp only [hab, hbc, eqd, decide_true, Bool.not_true, br_true, br_false, ob_some]
        exact ih h1 trivial
      · simp only [hab, decide_false, br_false, ob_some]
        exact ih h1 trivial
    · rw [br_neg (decide_eq_false (by omega))]) n 0 (Nat.zero_le _) trivial (big_gt hn (by omega))
  exact this
theorem sum_take {S : List Card} {f : Card → Nat} {k : Nat} (hk : k < S.length) : ((S.take (k + 1)).map f).sum = ((S.take k).map f).sum + f S[k] := by
  rw [List.take_succ_eq_append_getElem hk, List.map_append, List.sum_append]; simp
theorem shd_J3 {n : Nat} (hn : BIG ≤ n) {h : List Card} (m : Int) : v_FnShadows_J3 n (m, (shHand h m).1, h, (shHand h m).2) = some true := by
  unfold v_FnShadows_J3
  by_cases hx : (hand h && maskB m) = true
  · have e : shHand h m = (true, sortd (h.map (shadow m))) := by unfold shHand; rw [if_pos hx]
    rw [Bool.and_eq_true] at hx
    obtain ⟨hh, hm⟩ := hx
    have hl := hand_len hh
    obtain ⟨b1, b2, b3, b4⟩ := sortd_ok (map_allC hh m)
    rw [List.length_map] at b4
    have hsum : ((sortd (h.map (shadow m))).map fun c => (h.map (shadow m)).count c).sum = h.length := by
      rw [count_sum b2.nodup fun c hc => (b3 c).2 hc, List.length_map]
    have hpos : ∀ c ∈ sortd (h.map (shadow m)), 1 ≤ (h.map (shadow m)).count c := fun c hc => List.count_pos_iff.2 ((b3 c).1 hc)
    rw [e]
    rw [Bool.not_true, br_false]
    simp only []
    generalize sortd (h.map (shadow m)) = S at *
    have hcl : ∀ c, (h.map (shadow m)).count c ≤ 27 := fun c => Nat.le_trans List.count_le_length (by rw [List.length_map]; omega)
    have hb : ∀ k, ((S.take k).map fun c => (h.map (shadow m)).count c).sum ≤ h.length := fun k => by
      rw [← hsum]
      conv => rhs; rw [← List.take_append_drop k S]
      rw [List.map_append, List.sum_append]; omega
    have := fx_cnt (B := v_FnShadows_L2 n) S.length (fun k => (m, ((((S.take k).map fun c => (h.map (shadow m)).count c).sum : Nat) : Int), (k : Int), h, S)) (fun _ => True) (fun _ => some true) (fun self k hk _ ih => by
      simp only [v_FnShadows_L2, lt_eq]
      have hbk := hb k
      by_cases h1 : k < S.length
      · have g : gl (⟨0, 0, 0, 0⟩ : Card) S k = S[k] := gl_eq h1
        have hp := hpos _ (List.getElem_mem h1)
        have hq := hcl S[k]
        have ecb : CBh h m S[k] = (((h.map (shadow m)).count S[k] : Int), true) := by unfold CBh; rw [hh, hm, b1 _ (List.getElem_mem h1)]; rfl
        have ih := ih h1 trivial
        rw [sum_take h1] at ih
        rw [br_pos (decide_eq_true (show (k : Int) < (S.length : Int) by omega)), ckb_pos (inb_ok h1), toNat_cast, g, i_CountBehind_eq hn (by omega), ob_some, ecb]
        simp only [Bool.not_true, br_false, ob_some]
        rw [br_neg (decide_eq_false (show ¬ ((h.map (shadow m)).count S[k] : Int) < 1 by omega)), w64_id (x := _ + ((h.map (shadow m)).count S[k] : Int)) (by omega), w64_succ (by omega)]
        rw [Int.natCast_add] at ih
        exact ih
      · have : k = S.length := by omega
        subst this
        rw [br_neg (decide_eq_false (by omega)), i_LinesIn_eq hn (by omega), ob_some, hh, List.take_length, hsum]
        simp only [if_true, Bool.not_true, br_false, ob_some, decide_true]
        exact shd_L1 hn hh hm) n 0 (Nat.zero_le _) trivial (big_gt hn (by omega))
    exact this
  · have e : shHand h m = (false, []) := by unfold shHand; rw [if_neg hx]
    rw [e]; rfl
theorem shadow15 (c : Card) : shadow 15 c = c := by
  have k : ∀ i : Int, i = 0 ∨ i = 1 ∨ i = 2 ∨ i = 3 → keepB 15 i = false := by
    rintro i (rfl | rfl | rfl | rfl) <;> decide
  unfold shadow sh
  rw [k 0 (by omega), k 1 (by omega), k 2 (by omega), k 3 (by omega)]; rfl
theorem shd_J4 {n : Nat} (hn : BIG ≤ n) {h : List Card} (m : Int) {e : List Card} (el : e.length ≤ 29) {r : Int × Bool} (hr : i_LeastMask n e = some r) (hb : hand e = true → ∃ b : Nat, r = ((b : Int), true) ∧ 1 ≤ b ∧ b ≤ 15 ∧ (b = 15 ∨ dis e b)) :
    v_FnShadows_J4 n (m, (shHand h m).1, r.1, r.2, h, (shHand h m).2, e) = some true := by
  unfold v_FnShadows_J4
  have J3 := shd_J3 hn (h := h) m
  cases hh : hand e with
  | false =>
    have : r = (0, false) := by
      unfold i_LeastMask at hr
      rw [i_IsHand_eq hn (by omega), hh] at hr
      exact (Option.some.inj hr).symm
    subst this
    exact J3
  | true =>
    obtain ⟨b, rfl, b1, b15, hd⟩ := hb hh
    obtain ⟨h1, h2, h3⟩ := hand_iff.1 hh
    simp only [br_true]
    rw [i_ShadowHand_eq hn (by omega), ob_some]
    have hm : maskB (b : Int) = true := decide_eq_true (by omega)
    have ee : shHand e (b : Int) = (true, sortd (e.map (shadow (b : Int)))) := by unfold shHand; rw [hh, hm]; rfl
    have elen : (sortd (e.map (shadow (b : Int)))).length = e.length := by
      rcases hd with rfl | hd
      · have : e.map (shadow ((15 : Nat) : Int)) = e := by
          have : ∀ c, shadow ((15 : Nat) : Int) c = c := shadow15
          rw [List.map_congr_left fun c _ => this c, List.map_id']
        rw [this, sortd_id h1 h2]
      · exact hd
    rw [ee]
    simp only [Bool.not_true, br_false, ob_some]
    rw [elen, decide_eq_true rfl]
    exact J3
theorem law_FnShadows {n : Nat} (hn : BIG ≤ n) (a : List Int) (ok : (Ty.sl (.int .u8)).ok a) : v_FnShadows n a = some true := by
  have hb : ByB a := ok_bytes' ok
  unfold v_FnShadows v_rBig
  rw [ob_some, br_dec]
  split
  · rfl
  obtain ⟨m, h, e1, hl⟩ := DrawShadowHand_ok hn hb
  obtain ⟨c2, m2, e2⟩ := DrawShadowOf_ok (n := n) hb
  obtain ⟨m3, c3, h3, e3, hl3⟩ := DrawCountBehind_ok hn hb
  obtain ⟨e, e4, el⟩ := DrawLeastMask_ok hn hb
  obtain ⟨s, f, e5, fl⟩ := DrawHiddenCard_ok hn hb
  obtain ⟨r, rs, ri, rb⟩ := LeastMask_eq hn (h := e) (by omega)
  have hsl := shHand_len (h := h) (by omega) m
  rw [e1, ob_some]
  simp only []
  rw [i_ShadowHand_eq hn (by omega), ob_some, s_ShadowHand_eq hn (by omega), ob_some, v_rHand_eq4 hn (by omega)]
  simp only [beq_self_eq_true, decide_true, Bool.not_true, br_false, ob_some]
  rw [e2, ob_some]
  simp only []
  rw [i_ShadowOf_eq hn, ob_some, s_ShadowOf_eq hn, ob_some, i_IsCard_eq hn, ob_some, i_IsMask_eq]
  have eso : (br (isC c2) (some (maskB m2)) (some false)) = some (SO c2 m2).2 := by unfold SO; cases isC c2 <;> cases maskB m2 <;> rfl
  simp only [ob_some, eso, eqd, beq_self_eq_true, decide_true, Bool.not_true, br_false, ob_some]
  rw [e3, ob_some]
  simp only []
  rw [i_CountBehind_eq hn (by omega), ob_some, s_CountBehind_eq hn (by omega), ob_some]
  simp only [beq_self_eq_true, decide_true, Bool.not_true, br_false, ob_some]
  rw [i_ShadowLines_eq hn (by omega), ob_some, s_ShadowLines_eq hn (by omega), ob_some]
  have esl : (shLines h m).2 = (shHand h m).1 := by unfold shLines shHand; cases hand h <;> cases maskB m <;> rfl
  simp only [esl, beq_self_eq_true, decide_true, Bool.not_true, br_false, ob_some]
  rw [e4, ob_some]
  rw [ri, ob_some, rs, ob_some]
  simp only [beq_self_eq_true, decide_true, Bool.not_true, br_false, ob_some]
  rw [e5, ob_some]
  simp only []
  rw [i_HiddenCard_eq hn (by omega), ob_some, s_HiddenCard_eq hn (by omega), ob_some]
  simp only [beq_self_eq_true, decide_true, Bool.not_true, br_false, ob_some]
  have J4 := shd_J4 hn (h := h) m el ri rb
  by_cases hx : (hand f && isC s && !f.contains (hid s (sumC f))) = true
  · have ehc : HC f s = (hid s (sumC f), true) := by unfold HC; rw [if_pos hx]
    simp only [Bool.and_eq_true, Bool.not_eq_true'] at hx
    obtain ⟨⟨hf, hs⟩, hnc⟩ := hx
    rw [ehc]
    simp only [br_true]
    rw [i_SumCards_eq hn (by omega), ob_some, hf]
    simp only [if_true, br_true]
    have J5 : v_FnShadows_J5 n (m, (shHand h m).1, r.1, r.2, h, (shHand h m).2, e, f, hid s (sumC f)) = some true := by
      unfold v_FnShadows_J5
      simp only []
      rw [v_rIn_eq hn (by omega), hnc]
      exact J4
    have ht := sumC_isC f
    rw [← J5]
    generalize sumC f = t at ht
    rw [isC_iff] at hs ht
    obtain ⟨q, rfl⟩ : ∃ q, n = q + 5 := ⟨n - 5, by unfold BIG at hn; omega⟩
    have k0 : Int.tmod (w64 (t.x0 + (s.x0 - t.x0) % 3)) 3 = s.x0 := by rw [w64_id (by omega), Int.tmod_eq_emod_of_nonneg (by omega)]; omega
    have k1 : Int.tmod (w64 (t.x1 + (s.x1 - t.x1) % 3)) 3 = s.x1 := by rw [w64_id (by omega), Int.tmod_eq_emod_of_nonneg (by omega)]; omega
    have k2 : Int.tmod (w64 (t.x2 + (s.x2 - t.x2) % 3)) 3 = s.x2 := by rw [w64_id (by omega), Int.tmod_eq_emod_of_nonneg (by omega)]; omega
    have k3 : Int.tmod (w64 (t.x3 + (s.x3 - t.x3) % 3)) 3 = s.x3 := by rw [w64_id (by omega), Int.tmod_eq_emod_of_nonneg (by omega)]; omega
    simp only [lt_eq, fx_succ, v_FnShadows_L6]
    simp [V4.get, hid, k0, k1, k2, k3, show inb 0 4 = true from rfl, show inb 1 4 = true from rfl, show inb 2 4 = true from rfl, show inb 3 4 = true from rfl, show w64 1 = 1 from by decide, show w64 (1 + 1) = 2 from by decide, show w64 (2 + 1) = 3 from by decide, show w64 (3 + 1) = 4 from by decide]
  · have ehc : HC f s = (⟨0, 0, 0, 0⟩, false) := by unfold HC; rw [if_neg hx]
    rw [ehc]
    exact J4
end Go.Pl

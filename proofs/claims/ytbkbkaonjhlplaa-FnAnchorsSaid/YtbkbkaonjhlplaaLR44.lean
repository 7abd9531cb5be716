/- Plain laws: R44. -/
import Derived.Test.YtbkbkaonjhlplaaLR43
import Derived.Test.YtbkbkaonjhlplaaLLMn
set_option linter.unusedVariables false
set_option linter.unusedSimpArgs false
namespace Go.Pl
open Go Go.Tv Go.RowKit
set_option linter.unusedVariables false
set_option linter.unusedSimpArgs false

/-! anchors -/
def anch (h : List Card) (c : Card) : Bool := h.all fun x => !decide (x = c) && h.contains (third x c)
theorem i_isAnchor_eq {n : Nat} (hn : BIG ≤ n) {h : List Card} (hc : AllC h) (hl : h.length ≤ 100) {c : Card} (cc : isC c = true) : i_isAnchor n h c = some (anch h c) := by
  unfold i_isAnchor anch
  have := fx_cnt (B := i_isAnchor_L1 n) h.length (fun i => (h, h, (h.length : Int), (i : Int), c)) (fun _ => True) (fun i => some ((h.drop i).all fun x => !decide (x = c) && h.contains (third x c))) (fun self i hi _ ih => by
    simp only [i_isAnchor_L1, lt_eq]
    by_cases h1 : i < h.length
    · have g : gl (⟨0, 0, 0, 0⟩ : Card) h i = h[i] := gl_eq h1
      rw [br_pos (decide_eq_true (show (i : Int) < (h.length : Int) by omega)), ckb_pos (inb_ok h1), toNat_cast, g, i_third_eq hn cc (hc _ (List.getElem_mem h1)), ob_some, i_has_eq hn (by omega), ob_some, w64_succ (by omega), List.drop_eq_getElem_cons h1, List.all_cons]
      rw [th_comm c]
      unfold eqd
      cases hd : decide (h[i] = c) with
      | true => rfl
      | false =>
        rw [br_false, ob_some]
        cases hx : h.contains (third h[i] c) with
        | true => rw [Bool.not_true, br_false, ih h1 trivial]; simp
        | false => rfl
    · rw [br_neg (decide_eq_false (by omega)), List.drop_eq_nil_of_le (by omega)]; rfl) n 0 (Nat.zero_le _) trivial (big_gt hn (by omega))
  simpa using this
theorem s_l3Anchor_eq {n : Nat} (hn : BIG ≤ n) {h : List Card} (hc : AllC h) (hl : h.length ≤ 100) (h0 : 0 < h.length) {c : Card} (cc : isC c = true) : s_l3Anchor n h c = some (anch h c) := by
  unfold s_l3Anchor anch
  have := fx_cnt (B := s_l3Anchor_L1 n) h.length (fun i => (h, (i : Int), c)) (fun _ => True) (fun i => some ((h.drop i).all fun x => !decide (x = c) && h.contains (third x c))) (fun self i hi _ ih => by
    simp only [s_l3Anchor_L1, lt_eq]
    by_cases h1 : i < h.length
    · have g : gl (⟨0, 0, 0, 0⟩ : Card) h i = h[i] := gl_eq h1
      rw [br_pos (decide_eq_true (show (i : Int) < (h.length : Int) by omega)), ckb_pos (inb_ok h1), ckb_pos (inb_ok h1), toNat_cast, g, s_l2Third_eq hn (hc _ (List.getElem_mem h1)) cc, ob_some, s_l2Has_eq hn (by omega), ob_some, w64_succ (by omega), List.drop_eq_getElem_cons h1, List.all_cons]
      unfold eqd
      cases hd : decide (h[i] = c) with
      | true => rfl
      | false =>
        rw [br_false, ob_some]
        cases hx : h.contains (third h[i] c) with
        | true => rw [Bool.not_true, br_false, ih h1 trivial]; simp
        | false => rfl
    · rw [br_neg (decide_eq_false (by omega)), List.drop_eq_nil_of_le (by omega), decide_eq_true (by omega)]; rfl) n 0 (Nat.zero_le _) trivial (big_gt hn (by omega))
  simpa using this
def ancs (h : List Card) : List Int := (List.range' 0 (81 - 0)).flatMap fun k : Nat => if anch h (cardAt (k : Int)) = true then [(k : Int)] else []
theorem ancs_len {h : List Card} : (ancs h).length ≤ 81 := by
  have := flen (l := List.range' 0 (81 - 0)) (f := fun k : Nat => if anch h (cardAt (k : Int)) = true then [(k : Int)] else []) (M := 1) fun k _ => by split <;> simp
  rw [List.length_range'] at this
  unfold ancs; omega
def AN (h : List Card) : Bool × List Int := if hand h && decide (0 < h.length) then (true, ancs h) else (false, [])
theorem ancond (h : List Card) : (br (!hand h) (some true) (some (decide ((h.length : Int) = 0)))) = some (!(hand h && decide (0 < h.length))) := by
  have : decide ((h.length : Int) = 0) = !decide (0 < h.length) := by rw [← decide_not]; congr 1; apply propext; omega
  rw [this]
  cases hand h <;> cases decide (0 < h.length) <;> rfl
theorem i_AnchorsOf_eq {n : Nat} (hn : BIG ≤ n) {h : List Card} (hl : h.length ≤ 1048576) : i_AnchorsOf n h = some (AN h) := by
  unfold i_AnchorsOf AN
  rw [i_IsHand_eq hn (by omega), ob_some, ancond, ob_some]
  cases hx : (hand h && decide (0 < h.length)) with
  | false => rfl
  | true =>
    rw [Bool.and_eq_true, decide_eq_true_iff] at hx
    have H := HandL.of hx.1
    have hl := H.len
    have hb := ancs_len (h := h)
    have := fx_app (B := i_AnchorsOf_L1 n) 81 (fun i a => (h, (i : Int), a)) (fun k : Nat => if anch h (cardAt (k : Int)) = true then [(k : Int)] else []) (fun a => some (true, a)) 1000000 (fun self i a hi hM => by
      simp only [i_AnchorsOf_L1, lt_eq]
      rw [br_pos (decide_eq_true (show (i : Int) < 81 by omega)), i_card_eq n (by omega), ob_some, i_isAnchor_eq hn H.c (by omega) (cardAt_isC (by omega)), ob_some, w64_succ (by omega)]
      cases ho : anch h (cardAt (i : Int)) with
      | true =>
        rw [ho] at hM
        simp only [if_true, List.length_singleton] at hM
        rw [br_true, ckb_pos (apok_ok (by omega) (by omega))]; simp
      | false => simp) (fun self a => by
      simp only [i_AnchorsOf_L1]
      rw [br_neg (decide_eq_false (show ¬ ((81 : Nat) : Int) < 81 by omega))]) n 0 [] (Nat.zero_le _) (big_gt hn (by omega)) (by unfold ancs at hb; simp only [List.length_nil]; omega)
    rw [List.nil_append] at this
    exact this
theorem s_AnchorsOf_eq {n : Nat} (hn : BIG ≤ n) {h : List Card} (hl : h.length ≤ 1048576) : s_AnchorsOf n h = some (AN h) := by
  unfold s_AnchorsOf AN
  rw [s_l2Hand_eq hn (by omega), ob_some, ancond, ob_some]
  cases hx : (hand h && decide (0 < h.length)) with
  | false => rfl
  | true =>
    rw [Bool.and_eq_true, decide_eq_true_iff] at hx
    have H := HandL.of hx.1
    have hl := H.len
    have hb := ancs_len (h := h)
    have := fx_app (B := s_AnchorsOf_L1 n) 81 (fun i a => (h, (i : Int), a)) (fun k : Nat => if anch h (cardAt (k : Int)) = true then [(k : Int)] else []) (fun a => some (true, a)) 1000000 (fun self i a hi hM => by
      simp only [s_AnchorsOf_L1, lt_eq]
      rw [br_pos (decide_eq_true (show (i : Int) < 81 by omega)), s_l2At_eq n (by omega), ob_some, s_l3Anchor_eq hn H.c (by omega) hx.2 (cardAt_isC (by omega)), ob_some, w64_succ (by omega)]
      cases ho : anch h (cardAt (i : Int)) with
      | true =>
        rw [ho] at hM
        simp only [if_true, List.length_singleton] at hM
        rw [br_true, ckb_pos (apok_ok (by omega) (by omega))]; simp
      | false => simp) (fun self a => by
      simp only [s_AnchorsOf_L1]
      rw [br_neg (decide_eq_false (show ¬ ((81 : Nat) : Int) < 81 by omega))]) n 0 [] (Nat.zero_le _) (big_gt hn (by omega)) (by unfold ancs at hb; simp only [List.length_nil]; omega)
    rw [List.nil_append] at this
    exact this
theorem S_two {g : Nat → Nat → Nat} (hs : ∀ i j, g i j = g j i) (hd : ∀ i, g i i = 0) : ∀ n, (S n fun i => S n (g i)) = 2 * T n g
  | 0 => rfl
  | n + 1 => by
    have ih := S_two hs hd n
    have e : (S n fun i => S (n + 1) (g i)) = (S n fun i => S n (g i)) + S n (g n) := by
      rw [← S_add]
      exact S_congr fun i _ => by rw [S, hs i n]
    rw [S, e, T_succ, S, hd n, ih]; omega
theorem anch_two {h : List Card} (H : HandL h) {c : Card} (cc : isC c = true) (ha : anch h c = true) : 2 * thr h c = h.length := by
  unfold anch at ha
  rw [List.all_eq_true] at ha
  rw [thr_T]
  have e1 : (T h.length fun j i => b2 (lineB (gz h i) (gz h j) c)) = T h.length fun j i => b2 (lineB (gz h j) (gz h i) c) := T_congr fun i k h1 h2 => by
    unfold lineB; rw [th_comm]; congr 2; congr 1; congr 1; exact propext eq_comm
  rw [e1, ← S_two (g := fun j i => b2 (lineB (gz h j) (gz h i) c)) (fun i j => by unfold lineB; rw [th_comm]; congr 2; congr 1; congr 1; exact propext eq_comm) (fun i => by unfold lineB; simp [b2])]
  have : (S h.length fun i => S h.length fun j => b2 (lineB (gz h i) (gz h j) c)) = S h.length fun _ => 1 := S_congr fun i hi => by
    have hm := ha (gz h i) (mem_gz.2 ⟨i, hi, rfl⟩)
    rw [Bool.and_eq_true, Bool.not_eq_true', decide_eq_false_iff_not, List.contains_iff_mem] at hm
    obtain ⟨m, hm1, hm2⟩ := mem_gz.1 hm.2
    have ci : isC (gz h i) = true := gl_C H.c hi
    rw [S_congr (g := fun j => b2 (decide (m = j) && true)) fun j hj => by
      congr 1
      rw [Bool.and_true, Bool.eq_iff_iff, decide_eq_true_iff]
      unfold lineB
      rw [Bool.and_eq_true, Bool.not_eq_true', decide_eq_false_iff_not, decide_eq_true_iff]
      constructor
      · rintro ⟨h1, h2⟩
        refine gz_inj H hm1 hj ?_
        rw [hm2, ← h2, th_back ci (gl_C H.c hj)]
      · rintro rfl
        rw [hm2]
        exact ⟨fun e => th_ne ci cc hm.1 e.symm, th_back ci cc⟩, S_ind hm1]
    rfl
  rw [this, S_const]; omega

/-! joined caps -/
theorem i_isCap_eq' {n : Nat} (hn : BIG ≤ n) {h : List Card} (H : HandL h) : i_isCap n h = some (capB h) := by
  have := nodup_len81 H.nd H.c
  unfold i_isCap capB
  rw [i_linesIn_eq hn (by omega) H.c H.nd, ob_some]
  congr 1; congr 1; apply propext; omega
def joinD (u v : List Card) : List Card := sortd (u ++ v)
def JC (u v : List Card) : Bool × List Card := if hand u && hand v && capB u && capB v && (capB (joinD u v) && decide ((joinD u v).length ≤ 27)) then (true, joinD u v) else (false, [])
theorem join_foldl : ∀ (v a : List Card), AllC v → AllC a → SS a → AllC (v.foldl (fun a c => ins c a) a) ∧ SS (v.foldl (fun a c => ins c a) a) ∧ (∀ c, c ∈ v.foldl (fun a c => ins c a) a ↔ c ∈ v ∨ c ∈ a) ∧ (v.foldl (fun a c => ins c a) a).length ≤ v.length + a.length := fun v a h1 h2 h3 => sortd_go v a h1 h2 h3
theorem allC_app {u v : List Card} (hu : AllC u) (hv : AllC v) : AllC (u ++ v) := fun c hc => by
  rcases List.mem_append.1 hc with h | h
  · exact hu c h
  · exact hv c h
theorem join_eq {u v : List Card} (hu : hand u = true) (hv : hand v = true) : v.foldl (fun a c => ins c a) u = joinD u v := by
  obtain ⟨u1, u2, u3⟩ := hand_iff.1 hu
  obtain ⟨v1, v2, v3⟩ := hand_iff.1 hv
  obtain ⟨a1, a2, a3, a4⟩ := sortd_go v u v1 u1 u2
  obtain ⟨b1, b2, b3, b4⟩ := sortd_ok (allC_app u1 v1)
  refine ss_uniq a2 b2 fun c => ?_
  unfold joinD
  rw [a3, b3, List.mem_append]; exact or_comm
theorem s_JoinCaps_eq {n : Nat} (hn : BIG ≤ n) {u v : List Card} (hlu : u.length ≤ 1048576) (hlv : v.length ≤ 1048576) : s_JoinCaps n u v = some (JC u v) := by
  unfold s_JoinCaps JC
  rw [s_l2Hand_eq hn (by omega), ob_some, s_l2Hand_eq hn (by omega)]
  cases hu : hand u with
  | false => rfl
  | true =>
    cases hv : hand v with
    | false => rfl
    | true =>
      rw [s_l3Cap_eq hn hu, s_l3Cap_eq hn hv]
      cases capB u with
      | false => rfl
      | true =>
        cases capB v with
        | false => rfl
        | true =>
          obtain ⟨u1, u2, u3⟩ := hand_iff.1 hu
          obtain ⟨v1, v2, v3⟩ := hand_iff.1 hv
          show ob (s_l2Own n u) _ = _
          rw [s_l2Own_eq (by omega), ob_some]
          have := fx_foldl (B := s_JoinCaps_L1 n) v (fun i a => (v, (i : Int), a)) (fun a c => ins c a) (fun a => ob (br (decide (27 < (a.length : Int))) (some true) (ob (s_l3Cap n a) fun r15 => some (! r15))) fun x16 => br x16 (some (false, ([] : List Card))) (some (true, a))) (fun i a => AllC a ∧ a.length ≤ 27 + i) (fun i a hi h1 => ⟨ins_allC (v1 _ (List.getElem_mem hi)) h1.1, by have := ins_len (c := v[i]) (l := a); omega⟩) (fun self i a hi h1 => by
            simp only [s_JoinCaps_L1, lt_eq]
            have g : gl (⟨0, 0, 0, 0⟩ : Card) v i = v[i] := gl_eq hi
            rw [br_pos (decide_eq_true (show (i : Int) < (v.length : Int) by omega)), ckb_pos (inb_ok hi), toNat_cast, g, s_l2Put_eq hn h1.1 (by omega) (v1 _ (List.getElem_mem hi)), ob_some, w64_succ (by omega)]) (fun self a h1 => by
            simp only [s_JoinCaps_L1]
            rw [br_neg (decide_eq_false (by omega))]) n (big_gt hn (by omega)) u ⟨u1, by omega⟩
          refine this.trans ?_
          rw [join_eq hu hv]
          obtain ⟨b1, b2, b3, b4⟩ := sortd_ok (allC_app u1 v1)
          have hJ : SS (joinD u v) := b2
          have hJc : AllC (joinD u v) := b1
          generalize joinD u v = J at hJ hJc
          by_cases h27 : J.length ≤ 27
          · rw [br_neg (decide_eq_false (by omega)), s_l3Cap_eq hn (hand_iff.2 ⟨hJc, hJ, h27⟩), decide_eq_true h27]
            cases capB J <;> rfl
          · rw [br_pos (decide_eq_true (by omega)), decide_eq_false h27]
            cases capB J <;> rfl
theorem i_JoinCaps_eq {n : Nat} (hn : BIG ≤ n) {u v : List Card} (hlu : u.length ≤ 1048576) (hlv : v.length ≤ 1048576) : i_JoinCaps n u v = some (JC u v) := by
  unfold i_JoinCaps JC
  rw [i_IsHand_eq hn (by omega), ob_some, i_IsHand_eq hn (by omega)]
  cases hu : hand u with
  | false => rfl
  | true =>
    cases hv : hand v with
    | false => rfl
    | true =>
      rw [i_isCap_eq hn hu, i_isCap_eq hn hv]
      cases capB u with
      | false => rfl
      | true =>
        cases capB v with
        | false => rfl
        | true =>
          obtain ⟨u1, u2, u3⟩ := hand_iff.1 hu
          obtain ⟨v1, v2, v3⟩ := hand_iff.1 hv
          show ckb (apok 32 (0 + u.length)) _ = _
          rw [ckb_pos (apok_ok (by omega) (by omega)), ckb_pos (apok_ok (by omega) (by omega)), i_sorted_eq hn (allC_app u1 v1) (by rw [List.length_append]; omega), ob_some]
          obtain ⟨b1, b2, b3, b4⟩ := sortd_ok (allC_app u1 v1)
          have hJ : SS (joinD u v) := b2
          have hJc : AllC (joinD u v) := b1
          rw [show sortd (u ++ v) = joinD u v from rfl]
          generalize joinD u v = J at hJ hJc
          rw [i_isCap_eq' hn (hJ.handL hJc), ob_some]
          by_cases h27 : J.length ≤ 27
          · rw [decide_eq_true h27, decide_eq_false (show ¬ (27 : Int) < (J.length : Int) by omega)]
            cases capB J <;> rfl
          · rw [decide_eq_false h27, decide_eq_true (show (27 : Int) < (J.length : Int) by omega)]
            cases capB J <;> rfl

/-! draws -/
theorem anc_J1 {n : Nat} {m : Nat} {c : Cu} (hc : CuOK m c) (hm : m < 4611686018427300000) {h : List Card} (hl : h.length ≤ 29) (b : Bool) (hb : b = true → 0 < h.length) : ∃ r, s_DrawAnchorsOf_J1 n (b, c, h) = some r ∧ r.length ≤ 29 := by
  unfold s_DrawAnchorsOf_J1
  cases b with
  | false => exact ⟨h, rfl, hl⟩
  | true =>
    have := hb rfl
    simp only [br_true]
    obtain ⟨i, c1, e1, k1, i0, i1⟩ := pick_ok n hc (by omega) (a := (h.length : Int)) (by omega)
    rw [e1, ob_some, s_l2Drop_ok (by omega) i0 i1, ob_some]
    exact ⟨_, rfl, by rw [List.length_append, List.length_take, List.length_drop]; omega⟩
theorem anc_J3 {n : Nat} (hn : BIG ≤ n) {m : Nat} {c : Cu} (hc : CuOK m c) (hm : m + 20 < 4611686018427300000) {h : List Card} (hl : h.length ≤ 29) (b : Bool) (hb : b = false → hand h = true) : ∃ r, s_DrawAnchorsOf_J3 n (b, c, h) = some r ∧ r.length ≤ 29 := by
  unfold s_DrawAnchorsOf_J3
  cases b with
  | true => exact ⟨h, rfl, hl⟩
  | false =>
    have hh := hb rfl
    have hA := hand_all hh
    simp only [br_false]
    obtain ⟨i, c1, e1, k1, i0, i1⟩ := pick_ok n hc (by omega) (a := 81) (by omega)
    rw [e1, ob_some, s_l2At_eq n (by omega), ob_some]
    have cc : isC (cardAt i) = true := cardAt_isC (by omega)
    refine fx_inv (B := s_DrawAnchorsOf_L2 n) (fun s => ∃ (i2 : Nat) (e : List Card), s = ((i2 : Int), c1, h, cardAt i, e) ∧ i2 ≤ h.length ∧ AllC e ∧ e.length ≤ 22) (fun s => h.length - s.1.toNat) (fun o => ∃ r, o = some r ∧ r.length ≤ 29) ?_ n _ ⟨0, [], rfl, by omega, fun c hc => (by cases hc), by simp⟩ (big_gt hn (by simp only []; omega))
    rintro self _ ⟨i2, e, rfl, h1, h2, h3⟩ ih
    simp only [s_DrawAnchorsOf_L2, lt_eq]
    have fin : ∃ r, (br (decide (0 < (e.length : Int))) (ob (s_Cur_one'p n 4 c1) fun r19 => s_DrawAnchorsOf_J1 n (r19.1, r19.2, e)) (s_DrawAnchorsOf_J1 n (false, c1, e))) = some r ∧ r.length ≤ 29 := by
      rw [br_dec]
      split
      · obtain ⟨x, c2, e2, k2⟩ := one_ok n k1 (by omega) (a := 4) (by omega)
        rw [e2, ob_some]
        exact anc_J1 k2 (by omega) (by omega) x fun _ => by omega
      · exact anc_J1 k1 (by omega) (by omega) false fun h => by cases h
    by_cases hi : i2 < h.length
    · rw [br_pos (decide_eq_true (show (i2 : Int) < (h.length : Int) by omega)), ob_some, br_dec]
      split
      · rw [ckb_pos (inb_ok hi), toNat_cast, w64_succ (by omega)]
        have ci := gl_C hA hi
        have l1 := ins_len (c := gl (⟨0, 0, 0, 0⟩ : Card) h i2) (l := e)
        have l2 := ins_len (c := third (gl (⟨0, 0, 0, 0⟩ : Card) h i2) (cardAt i)) (l := ins (gl (⟨0, 0, 0, 0⟩ : Card) h i2) e)
        cases hd : (!eqd (gl (⟨0, 0, 0, 0⟩ : Card) h i2) (cardAt i)) with
        | true =>
          rw [br_true, ckb_pos (inb_ok hi), s_l2Put_eq hn h2 (by omega) ci, ob_some, ckb_pos (inb_ok hi), s_l2Third_eq hn ci cc, ob_some, s_l2Put_eq hn (ins_allC ci h2) (by omega) (third_isC ci cc), ob_some]
          exact ih _ ⟨i2 + 1, _, rfl, by omega, ins_allC (third_isC ci cc) (ins_allC ci h2), by omega⟩ (by simp only []; omega)
        | false =>
          rw [br_false]
          exact ih _ ⟨i2 + 1, _, rfl, by omega, h2, h3⟩ (by simp only []; omega)
      · exact fin
    · rw [br_neg (decide_eq_false (show ¬ (i2 : Int) < (h.length : Int) by omega)), ob_some, br_false]
      exact fin
theorem DrawAnchorsOf_ok {n : Nat} (hn : BIG ≤ n) {a : List Int} (ha : ByB a) : ∃ h, s_DrawAnchorsOf n a = some h ∧ h.length ≤ 29 := by
  unfold s_DrawAnchorsOf
  obtain ⟨c1, h, e1, hl, k1⟩ := hand_ok hn (cu0 ha) (by omega)
  rw [lt_eq, e1, ob_some]
  simp only []
  rw [s_l2Hand_eq hn (by omega), ob_some]
  cases hh : hand h with
  | false => exact anc_J3 hn k1 (by omega) hl true fun h => by cases h
  | true =>
    rw [Bool.not_true, br_false]
    obtain ⟨x, c2, e2, k2⟩ := one_ok n k1 (by omega) (a := 3) (by omega)
    rw [e2, ob_some]
    exact anc_J3 hn k2 (by omega) hl x fun _ => hh
theorem DrawJoinCaps_ok {n : Nat} (hn : BIG ≤ n) {a : List Int} (ha : ByB a) : ∃ u v, s_DrawJoinCaps n a = some (u, v) ∧ u.length ≤ 81 ∧ v.length ≤ 81 := by
  unfold s_DrawJoinCaps
  obtain ⟨c1, u, e1, ul, k1⟩ := cap3_ok hn (cu0 ha) (by omega)
  rw [lt_eq, e1, ob_some]
  obtain ⟨c2, v, e2, vl, k2⟩ := cap3_ok hn k1 (by omega)
  rw [e2, ob_some]
  simp only []
  rw [s_l2Hand_eq hn (by omega), ob_some]
  have J1 : ∀ (b : Bool) (c : Cu) (m : Nat), CuOK m c → m ≤ 1000 → (b = true → 3 < u.length) → ∃ u' v', s_DrawJoinCaps_J1 n (b, c, u, v) = some (u', v') ∧ u'.length ≤ 81 ∧ v'.length ≤ 81 := by
    intro b c m hc hm hb
    unfold s_DrawJoinCaps_J1
    cases b with
    | false => exact ⟨u, v, rfl, ul, vl⟩
    | true =>
      have := hb rfl
      simp only [br_true, lt_eq]
      obtain ⟨i, c3, e3, k3, i0, i1⟩ := pick_ok n hc (by omega) (a := (u.length : Int)) (by omega)
      rw [e3, ob_some]
      simp only []
      have hsl : ∀ x y, (sub u x y).length ≤ u.length := fun x y => by unfold sub; rw [List.length_take, List.length_drop]; omega
      have s1 := hsl 0 (0 + (w64 (i - 0)).toNat)
      have hd : Int.tdiv i 2 = i / 2 := Int.tdiv_eq_ediv_of_nonneg i0
      rw [ckb_pos (slb_ok (by omega) (by omega) (by omega)), s_l2Own_eq (by omega), ob_some, hd, w64_id (x := i / 2) (by omega), ckb_pos (slb_ok (by omega) (by omega) (by omega))]
      have s2 := hsl (i / 2).toNat ((i / 2).toNat + (w64 ((u.length : Int) - i / 2)).toNat)
      rw [s_l2Own_eq (by omega), ob_some]
      exact ⟨_, _, rfl, by omega, by omega⟩
  have J2 : ∀ b : Bool, (b = true → 3 < u.length) → ∃ u' v', s_DrawJoinCaps_J2 n (b, c2, u, v) = some (u', v') ∧ u'.length ≤ 81 ∧ v'.length ≤ 81 := by
    intro b hb
    unfold s_DrawJoinCaps_J2
    cases b with
    | true =>
      simp only [br_true]
      obtain ⟨x, c3, e3, k3⟩ := one_ok n k2 (by omega) (a := 3) (by omega)
      rw [e3, ob_some]
      exact J1 _ _ _ k3 (by omega) fun _ => hb rfl
    | false => simp only [br_false]; exact J1 _ _ _ k2 (by omega) fun h => by cases h
  cases hh : hand u with
  | true => rw [br_true]; exact J2 _ fun h1 => by have := of_decide_eq_true h1; omega
  | false => rw [br_false]; exact J2 _ fun h1 => by cases h1

/-! the law -/
theorem anc_L1 {n : Nat} (hn : BIG ≤ n) (go : Int × Int × List Card × List Int × Card → Opt Bool) (i0 : Int) {h : List Card} (hl : h.length ≤ 100) (A : List Int) (c t : Card) {k : Nat} (hk : k < h.length) (hm : t ∈ h) :
    fx (v_FnAnchors_L1 n go) n (i0, (k : Int), true, false, 0, h, A, c, t) = go (i0, ((k + 1 : Nat) : Int), h, A, c) := by
  have := fx_cnt (B := v_FnAnchors_L1 n go) h.length (fun i => (i0, (k : Int), true, (h.take i).contains t, (i : Int), h, A, c, t)) (fun _ => True) (fun _ => go (i0, ((k + 1 : Nat) : Int), h, A, c)) (fun self i hi _ ih => by
    simp only [v_FnAnchors_L1, lt_eq]
    by_cases h1 : i < h.length
    · rw [br_pos (decide_eq_true (show (i : Int) < (h.length : Int) by omega)), ckb_pos (inb_ok h1), toNat_cast, w64_succ (by omega), ← ih h1 trivial]
      have e1 : (h.take (i + 1)).contains t = ((h.take i).contains t || decide (gz h i = t)) := by
        have : gl (⟨0, 0, 0, 0⟩ : Card) h i = h[i] := gl_eq h1
        rw [Bool.eq_iff_iff, List.contains_iff_mem, List.take_succ_eq_append_getElem h1, List.mem_append, List.mem_singleton, Bool.or_eq_true, List.contains_iff_mem, decide_eq_true_iff]
        show _ ↔ _ ∨ gl _ h i = _
        rw [this]
        exact or_congr Iff.rfl eq_comm
      rw [e1]
      cases (h.take i).contains t with
      | true => rfl
      | false => rfl
    · have : i = h.length := by omega
      subst this
      rw [br_neg (decide_eq_false (by omega)), List.take_length, List.contains_iff_mem.2 hm, w64_succ (by omega)]; rfl) n 0 (Nat.zero_le _) trivial (big_gt hn (by omega))
  exact this
theorem anc_J4 {n : Nat} (hn : BIG ≤ n) {h : List Card} (hl : h.length ≤ 29) : v_FnAnchors_J4 n ((AN h).1, h, (AN h).2) = some true := by
  unfold v_FnAnchors_J4
  by_cases hx : (hand h && decide (0 < h.length)) = true
  · have e : AN h = (true, ancs h) := by unfold AN; rw [if_pos hx]
    rw [Bool.and_eq_true, decide_eq_true_iff] at hx
    obtain ⟨hh, h0⟩ := hx
    have H := HandL.of hh
    have hal := ancs_len (h := h)
    rw [e]
    rw [Bool.not_true, br_false]
    have hmem : ∀ x ∈ ancs h, ∃ k : Nat, x = (k : Int) ∧ k < 81 ∧ anch h (cardAt (k : Int)) = true := fun x hx => by
      unfold ancs at hx
      obtain ⟨k, e, _, h2, h3⟩ := (out_mem (p := fun k => anch h (cardAt (k : Int)))).1 hx
      exact ⟨k, e, by omega, h3⟩
    generalize ancs h = A at hal hmem
    have := fx_cnt (B := v_FnAnchors_L3 n) A.length (fun i => ((i : Int), h, A)) (fun _ => True) (fun _ => some true) (fun self i hi _ ih => by
      simp only [v_FnAnchors_L3, lt_eq]
      by_cases h1 : i < A.length
      · obtain ⟨k, ek, hk, ha⟩ := hmem _ (List.getElem_mem h1)
        have cc : isC (cardAt (k : Int)) = true := cardAt_isC (by omega)
        have ea : A1 (k : Int) = (cardAt (k : Int), true) := by unfold A1; rw [if_pos (by omega)]
        have h2 := anch_two H cc ha
        rw [br_pos (decide_eq_true (show (i : Int) < (A.length : Int) by omega)), ckb_pos (inb_ok h1), toNat_cast, gl_eq h1, ek, i_CardAt_eq, ob_some, ea, i_LinesThrough_eq hn (by omega), ob_some, hh, cc]
        simp only [Bool.and_self, if_true, Bool.not_true, br_false, ob_some]
        rw [w64_id (x := 2 * (thr h (cardAt (k : Int)) : Int)) (by omega), decide_eq_true (show 2 * (thr h (cardAt (k : Int)) : Int) = (h.length : Int) by omega)]
        simp only [Bool.not_true, br_false]
        have hall := ha
        unfold anch at hall
        rw [List.all_eq_true] at hall
        have L2 := fx_cnt (B := v_FnAnchors_L2 n self) h.length (fun k2 => ((i : Int), (k2 : Int), h, A, cardAt (k : Int))) (fun _ => True) (fun _ => some true) (fun self2 k2 hk2 _ ih2 => by
          simp only [v_FnAnchors_L2, lt_eq]
          by_cases h3 : k2 < h.length
          · have hm := hall (gz h k2) (mem_gz.2 ⟨k2, h3, rfl⟩)
            rw [Bool.and_eq_true, Bool.not_eq_true', List.contains_iff_mem] at hm
            have e3 : T3 (gl ⟨0, 0, 0, 0⟩ h k2) (cardAt (k : Int)) = (third (gz h k2) (cardAt (k : Int)), true) := by
              unfold T3
              rw [gl_C H.c h3, cc]
              have : decide (gl ⟨0, 0, 0, 0⟩ h k2 = cardAt (k : Int)) = false := hm.1
              rw [this]; rfl
            rw [br_pos (decide_eq_true (show (k2 : Int) < (h.length : Int) by omega)), ckb_pos (inb_ok h3), toNat_cast, i_ThirdCard_eq hn, ob_some, e3]
            exact (anc_L1 hn self2 (i : Int) (by omega) A _ _ h3 hm.2).trans (ih2 h3 trivial)
          · rw [br_neg (decide_eq_false (by omega)), w64_succ (by omega)]
            exact ih h1 trivial) n 0 (Nat.zero_le _) trivial (big_gt hn (by omega))
        exact L2
      · rw [br_neg (decide_eq_false (by omega))]) n 0 (Nat.zero_le _) trivial (big_gt hn (by omega))
    exact this
  · have e : AN h = (false, []) := by unfold AN; rw [if_neg hx]
    rw [e]; rfl
theorem JC_len (u v : List Card) : (JC u v).2.length ≤ 1000000 := by
  by_cases hx : (hand u && hand v && capB u && capB v && (capB (joinD u v) && decide ((joinD u v).length ≤ 27))) = true
  · have e : JC u v = (true, joinD u v) := by unfold JC; rw [if_pos hx]
    simp only [Bool.and_eq_true, decide_eq_true_iff] at hx
    have h27 := hx.2.2
    rw [e]
    generalize joinD u v = J at h27
    show J.length ≤ 1000000
    omega
  · have e : JC u v = (false, []) := by unfold JC; rw [if_neg hx]
    rw [e]; simp
theorem law_FnAnchors {n : Nat} (hn : BIG ≤ n) (a : List Int) (ok : (Ty.sl (.int .u8)).ok a) : v_FnAnchors n a = some true := by
  have hb : ByB a := ok_bytes' ok
  unfold v_FnAnchors v_vBig
  rw [ob_some, br_dec]
  split
  · rfl
  rename_i hbig
  obtain ⟨h, e1, hl⟩ := DrawAnchorsOf_ok hn hb
  obtain ⟨b, e2, hb', bl⟩ := vCut_ok (n := n) hb (by omega) (k := 1) (by omega)
  obtain ⟨u, v, e3, ul, vl⟩ := DrawJoinCaps_ok hn hb'
  have e2 : v_vCut n a 1 = some b := e2
  rw [e1, ob_some, i_AnchorsOf_eq hn (by omega), ob_some, s_AnchorsOf_eq hn (by omega), ob_some, e2, ob_some, e3, ob_some]
  simp only []
  rw [i_JoinCaps_eq hn (by omega) (by omega), ob_some, s_JoinCaps_eq hn (by omega) (by omega), ob_some]
  have al : (AN h).2.length ≤ 81 := by
    unfold AN; split
    · exact ancs_len
    · simp
  have jl := JC_len u v
  rw [v_vInts_eq hn (by omega), v_vHands_eq hn (by omega)]
  simp only [beq_self_eq_true, Bool.not_true, br_false, ob_some, decide_true]
  have J4 := anc_J4 hn hl
  by_cases hx : (hand u && hand v && capB u && capB v && (capB (joinD u v) && decide ((joinD u v).length ≤ 27))) = true
  · have e : JC u v = (true, joinD u v) := by unfold JC; rw [if_pos hx]
    simp only [Bool.and_eq_true, decide_eq_true_iff] at hx
    obtain ⟨⟨⟨⟨hu, hv⟩, cu⟩, cv⟩, cJ, h27⟩ := hx
    obtain ⟨u1, u2, u3⟩ := hand_iff.1 hu
    obtain ⟨v1, v2, v3⟩ := hand_iff.1 hv
    obtain ⟨b1, b2, b3, b4⟩ := sortd_ok (allC_app u1 v1)
    obtain ⟨d1, d2, d3, d4⟩ := sortd_ok (allC_app v1 u1)
    have esym : joinD v u = joinD u v := ss_uniq d2 b2 fun c => by
      unfold joinD
      rw [d3, b3, List.mem_append, List.mem_append]; exact or_comm
    have e' : JC v u = (true, joinD u v) := by
      unfold JC
      rw [esym, hu, hv, cu, cv, cJ, decide_eq_true h27]; rfl
    have hJh : hand (joinD u v) = true := hand_iff.2 ⟨b1, b2, h27⟩
    have l1 := len_sub' (M := u) (L := joinD u v) u2.nodup fun c hc => (b3 c).2 (List.mem_append_left _ hc)
    have l2 := len_sub' (M := v) (L := joinD u v) v2.nodup fun c hc => (b3 c).2 (List.mem_append_right _ hc)
    have l3 : (joinD u v).length ≤ u.length + v.length := by rw [List.length_append] at b4; exact b4
    rw [i_JoinCaps_eq (u := v) (v := u) hn (by omega) (by omega), e, e']
    clear b1 b2 b3 b4 d1 d2 d3 d4 esym e e'
    generalize joinD u v = J at cJ h27 hJh l1 l2 l3
    have eI : IC J = (true, true) := by unfold IC; rw [hJh, cJ]; rfl
    simp only [br_true, ob_some]
    rw [i_IsCap_eq (h := J) hn (by omega), ob_some, eI]
    simp only [br_false, Bool.not_true, ob_some]
    rw [v_vHands_eq (a := J) hn (by omega), ob_some, decide_eq_true rfl, w64_id (by omega)]
    simp only [lt_eq, br_false, Bool.not_true, ob_some]
    rw [decide_eq_false (show ¬ (u.length : Int) + (v.length : Int) < (J.length : Int) by omega), decide_eq_false (show ¬ (J.length : Int) < (u.length : Int) by omega), decide_eq_false (show ¬ (J.length : Int) < (v.length : Int) by omega)]
    simp only [br_false, Bool.not_true, ob_some]
    exact J4
  · have e : JC u v = (false, []) := by unfold JC; rw [if_neg hx]
    rw [e]
    exact J4
end Go.Pl

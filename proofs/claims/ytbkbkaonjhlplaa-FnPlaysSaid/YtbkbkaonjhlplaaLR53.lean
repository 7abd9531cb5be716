/- Plain laws: R53. -/
import Derived.Test.YtbkbkaonjhlplaaLR50
set_option linter.unusedVariables false
set_option linter.unusedSimpArgs false
namespace Go.Pl
open Go Go.Tv Go.RowKit
set_option linter.unusedVariables false
set_option linter.unusedSimpArgs false

theorem v_rHand_eq2 {n : Nat} (hn : BIG ≤ n) {a b : List Card} (hl : a.length ≤ 9223372036854775806) : v_rHand n a b = some (decide (a = b)) := v_vHands_eq hn hl
structure PlayF (n : Nat) (r : Int) (t m : Nat) (l : List Card) (sz : List Int) (q : List Card) (r' : Int) : Prop where
  ip : i_PlayDeal n r = some ((t : Int), (m : Int), true, l)
  sp : s_PlayDeal n r = some ((t : Int), (m : Int), true, l)
  iz : i_DealSizes n r = some (true, sz)
  sz' : s_DealSizes n r = some (true, sz)
  ni : i_NewDeal n r = some (r, 12, true, q)
  ns : s_NewDeal n r = some (r, 12, true, q)
  xi : i_NextSeed n r = some (r', true)
  xs : s_NextSeed n r = some (r', true)
  ql : q.length ≤ 81
  e : EndR t l
  cnt : sz.length = t + m + 1
  last : ∃ b, sz = b ++ [(l.length : Int)]
  le : ∀ x ∈ sz, x ≤ 21
  bd : sz.length ≤ 151
theorem play_ok {n : Nat} (hn : BIG ≤ n) {r : Int} (hr : 0 ≤ r ∧ r ≤ 65535) : ∃ t m l sz q r', PlayF n r t m l sz q r' := by
  obtain ⟨p, ps, pi, pp⟩ := pile_ok hn hr
  obtain ⟨r', b1, b2, _⟩ := behind_ok n hr
  obtain ⟨h81, hnd, hc⟩ := pile_facts pp
  have hsub : sub p 0 (0 + (w64 (12 - 0)).toNat) = p.take 12 := by
    rw [show w64 (12 - 0) = 12 from by decide]
    unfold sub; simp
  have htl : (p.take 12).length = 12 := by rw [List.length_take]; omega
  have hlen : (p.take 12).length ≤ 81 := by omega
  have eSeed : i_isSeed n r = some true := by unfold i_isSeed; rw [i_within_eq, decide_eq_true hr]; rfl
  have sSeed : s_l4Seed n r = some true := by unfold s_l4Seed; rw [s_l1In_eq, decide_eq_true hr]; rfl
  have eND : i_newDeal n r = some (r, 12, p.take 12) := by
    unfold i_newDeal
    rw [pi, ob_some, ckb_pos (slb_ok (by omega) (by omega) (by omega)), hsub, slices_Clone_SA4_A4__eq (by omega)]; rfl
  have ni : i_NewDeal n r = some (r, 12, true, p.take 12) := by
    unfold i_NewDeal
    rw [eSeed, ob_some, eND]; rfl
  have ns : s_NewDeal n r = some (r, 12, true, p.take 12) := by
    unfold s_NewDeal
    rw [sSeed, ob_some, ps, Bool.not_true, br_false, ob_some, ckb_pos (slb_ok (by omega) (by omega) (by omega)), hsub, s_l2Own_eq (by omega)]; rfl
  have I : PlI p 0 (r, ((12 : Int), p.take 12)) := ⟨⟨hr, by show (0 : Int) ≤ 12 ∧ (12 : Int) ≤ 81; omega, hnd.sublist (List.take_sublist _ _), fun c hc => hc⟩, by show (12 : Int) ≤ 12; omega, rfl, by show 3 * ((0 : Nat) : Int) + ((p.take 12).length : Int) = 12; omega, by show (p.take 12).length ≤ 21; omega, fun q => by
    show (sm (cx q) (p.take 12) - sm (cx q) (p.take 12)) % 3 = 0
    omega⟩
  have hmu : mu (r, ((12 : Int), p.take 12)) = 150 := by
    show (2 * (81 - 12) + ((p.take 12).length : Int)).toNat = 150
    rw [htl]; rfl
  obtain ⟨t, m, d', sz, R⟩ := play_go hn n 0 0 (r, ((12 : Int), p.take 12)) ⟨ps, pi, pp⟩ I (by rw [hmu]; exact big_gt hn (by omega)) (by omega)
  obtain ⟨E, el⟩ := play_end pp R.I R.ov
  have hcnt := R.cnt
  refine ⟨t, m, sortd d'.2.2, sz, p.take 12, r', ?_, ?_, ?_, ?_, ni, ns, ?_, ?_, hlen, E, by omega, by rw [el]; exact R.last, R.le, by have := R.bd; omega⟩
  · unfold i_PlayDeal
    rw [eSeed, ob_some, eND]
    exact R.ip
  · unfold s_PlayDeal
    rw [ns]
    exact R.sp
  · unfold i_DealSizes
    rw [eSeed, ob_some, eND]
    exact R.iz [] (by rw [hmu]; simp)
  · unfold s_DealSizes
    rw [ns]
    exact R.sz' [] (by rw [hmu]; simp)
  · unfold i_NextSeed
    rw [eSeed, ob_some, b2]; rfl
  · unfold s_NextSeed
    rw [sSeed, ob_some, b1]; rfl
theorem play_no {n : Nat} {r : Int} (hr : ¬ (0 ≤ r ∧ r ≤ 65535)) : i_isSeed n r = some false ∧ s_l4Seed n r = some false := by
  constructor
  · unfold i_isSeed; rw [i_within_eq, decide_eq_false hr]; rfl
  · unfold s_l4Seed; rw [s_l1In_eq, decide_eq_false hr]; rfl
theorem seedOf_ok {n : Nat} {m : Nat} {c : Cu} (hc : CuOK m c) (hm : m + 10 < 4611686018427300000) : ∃ r c', s_Cur_seedOf'p n c = some (r, c') ∧ CuOK (m + 10) c' := by
  unfold s_Cur_seedOf'p
  obtain ⟨x, c1, e1, k1⟩ := one_ok n hc (by omega) (a := 40) (by omega)
  rw [e1, ob_some]
  cases x with
  | true =>
    simp only [br_true]
    obtain ⟨y, c2, e2, k2, _⟩ := among_ok n k1 (by omega) (l := [(-1), 65536, 0, 65535, 4611686018427387904]) (by decide)
    rw [e2, ob_some]
    exact ⟨_, _, rfl, k2.mono (by omega)⟩
  | false =>
    simp only [br_false, lt_eq]
    obtain ⟨y, c2, e2, k2, _⟩ := pick_ok n k1 (by omega) (a := 256) (by omega)
    rw [e2, ob_some]
    obtain ⟨z, c3, e3, k3, _⟩ := pick_ok n k2 (by omega) (a := 200) (by omega)
    rw [e3, ob_some]
    exact ⟨_, _, rfl, k3.mono (by omega)⟩
theorem play_J2 {n : Nat} (hn : BIG ≤ n) {t m : Nat} {l : List Card} {sz : List Int} (E : EndR t l) (cnt : sz.length = t + m + 1) (last : ∃ b, sz = b ++ [(l.length : Int)]) (le : ∀ x ∈ sz, x ≤ 21) (bd : sz.length ≤ 151) : v_FnPlays_J2 n ((t : Int), (m : Int), true, l, sz) = some true := by
  have h27 := hand_len E.hand
  unfold v_FnPlays_J2
  rw [Bool.not_true, br_false, i_SumCards_eq hn (by simp only []; omega), ob_some, i_LinesIn_eq hn (by simp only []; omega), ob_some]
  simp only []
  rw [E.hand, if_pos rfl, if_pos rfl, E.sum, E.lines]
  have hc := E.cnt
  have e3 : decide ((l.length : Int) = 3) = false := decide_eq_false (by have := E.n3; omega)
  have e4 : w64 (3 * (t : Int)) = 3 * (t : Int) := w64_id (by omega)
  have e5 : w64 (3 * (t : Int) + (l.length : Int)) = 81 := by rw [w64_id (by omega)]; omega
  have e6 : w64 ((t : Int) + (m : Int)) = (t : Int) + (m : Int) := w64_id (by omega)
  have e7 : w64 ((t : Int) + (m : Int) + 1) = (sz.length : Int) := by rw [w64_id (by omega)]; omega
  have e8 : w64 ((sz.length : Int) - 1) = ((t + m : Nat) : Int) := by rw [w64_id (by omega)]; omega
  have e9 : gl 0 sz (t + m) = (l.length : Int) := by
    obtain ⟨b, hb⟩ := last
    subst hb
    rw [List.length_append, List.length_singleton] at cnt
    have : t + m = b.length := by omega
    rw [this, gl_eq (by rw [List.length_append, List.length_singleton]; omega)]
    simp
  simp only [Bool.not_true, br_false, ob_some, lt_eq, eqd, decide_true, e4, e5, e6, e7, e8, e3, List.length_nil]
  rw [ckb_pos (inb_ok (show t + m < sz.length by omega)), toNat_cast, e9]
  simp only [Bool.not_true, br_false, ob_some, decide_true, show decide ((0 : Int) < ((0 : Nat) : Int)) = false from rfl]
  have := fx_cnt (B := v_FnPlays_L1 n) sz.length (fun i => ((i : Int), sz)) (fun _ => True) (fun _ => some true) (fun self i hi _ ih => by
    simp only [v_FnPlays_L1, lt_eq]
    by_cases h1 : i < sz.length
    · have := le _ (List.getElem_mem h1)
      rw [br_pos (decide_eq_true (show (i : Int) < (sz.length : Int) by omega)), ckb_pos (inb_ok h1), toNat_cast, gl_eq h1, br_neg (decide_eq_false (show ¬ (21 : Int) < sz[i] by omega)), w64_succ (by omega)]
      exact ih h1 trivial
    · rw [br_neg (decide_eq_false (by omega))]) n 0 (Nat.zero_le _) trivial (big_gt hn (by omega))
  exact this
theorem law_FnPlays {n : Nat} (hn : BIG ≤ n) (a : List Int) (ok : (Ty.sl (.int .u8)).ok a) : v_FnPlays n a = some true := by
  have hb : ByB a := ok_bytes' ok
  unfold v_FnPlays v_rBig
  rw [ob_some, br_dec]
  split
  · rfl
  obtain ⟨r, c1, e1, k1⟩ := seedOf_ok (n := n) (cu0 hb) (by omega)
  have eD : s_DrawPlayDeal n a = some r := by
    unfold s_DrawPlayDeal s_DrawNextSeed
    rw [lt_eq, e1]; rfl
  obtain ⟨cc, c2, e2, k2⟩ := card_ok n k1 (by omega)
  have eC : s_DrawCardPlace n a = some (r, cc) := by
    unfold s_DrawCardPlace
    rw [lt_eq, e1, ob_some]
    simp only []
    rw [e2]; rfl
  rw [eD, ob_some]
  -- the part behind the play
  have tail : ∀ (X : Opt Bool), X = some true → (ob (s_DrawCardPlace n a) fun r24 => ob (i_CardPlace n r24.1 r24.2) fun r25 => ob (s_CardPlace n r24.1 r24.2) fun r26 => ob (br (!decide (r25.1 = r26.1)) (some true) (some (! (r25.2 == r26.2)))) fun x27 => br x27 (some false) (br r25.2 (ob (i_PileOf n r24.1) fun r47 => ob (br (! r47.1) (some true) (some (decide (r25.1 < 0)))) fun x48 => ob (br x48 (some true) (some (decide (80 < r25.1)))) fun x49 => ob (br x49 (some true) (ckb (inb r25.1 r47.2.length) (some (!eqd (gl ⟨0, 0, 0, 0⟩ r47.2 r25.1.toNat) r24.2)))) fun x50 => br x50 (some false) X) X)) = some true := by
    intro X hX
    subst hX
    rw [eC, ob_some]
    unfold i_CardPlace s_CardPlace i_PileOf
    simp only []
    by_cases hr : 0 ≤ r ∧ r ≤ 65535
    · obtain ⟨p, ps, pi, pp⟩ := pile_ok hn hr
      obtain ⟨h81, hnd, hc⟩ := pile_facts pp
      have eSeed : i_isSeed n r = some true := by unfold i_isSeed; rw [i_within_eq, decide_eq_true hr]; rfl
      have sSeed : s_l4Seed n r = some true := by unfold s_l4Seed; rw [s_l1In_eq, decide_eq_true hr]; rfl
      rw [eSeed, sSeed, i_IsCard_eq hn, s_l2Card_eq hn]
      cases hcc : isC cc with
      | false => rfl
      | true =>
        rw [ps, pi]
        simp only [ob_some, Bool.not_true, br_false]
        rw [slices_Index_eq hn (by omega), s_l2Place_eq hn (by omega)]
        have hm : cc ∈ p := pp.mem_iff.2 (mem_deck hcc)
        obtain ⟨k, hk, e⟩ := List.getElem_of_mem hm
        have hpl : place p cc = (k : Int) := place_of hnd (by rw [List.getElem?_eq_getElem hk, e])
        rw [hpl]
        simp only [ob_some, decide_true, Bool.not_true, br_false, beq_self_eq_true, br_true]
        rw [decide_eq_false (show ¬ (k : Int) < 0 by omega), decide_eq_false (show ¬ (80 : Int) < (k : Int) by omega), ckb_pos (inb_ok hk), toNat_cast, gl_eq hk, e]
        simp [eqd]
    · obtain ⟨n1, n2⟩ := play_no (n := n) hr
      rw [n1, n2]; rfl
  by_cases hr : 0 ≤ r ∧ r ≤ 65535
  · obtain ⟨t, m, l, sz, q, r', F⟩ := play_ok hn hr
    have hl27 := hand_len F.e.hand
    have hbd := F.bd
    have hql := F.ql
    rw [F.ip, ob_some, F.sp, ob_some]
    simp only []
    rw [v_rHand_eq2 hn (a := l) (by omega)]
    simp only [decide_true, Bool.not_true, br_false, beq_self_eq_true, ob_some]
    rw [F.iz, ob_some, F.sz', ob_some]
    simp only []
    rw [v_rInts_eq hn (a := sz) (by omega)]
    simp only [decide_true, Bool.not_true, br_false, beq_self_eq_true, ob_some]
    rw [F.ni, ob_some, F.ns, ob_some]
    have eDeal : v_rDeal n (r, ((12 : Int), q)) (r, ((12 : Int), q)) = some true := by
      unfold v_rDeal
      simp only [decide_true, br_true, ob_some]
      rw [v_rHand_eq2 hn (a := q) (by omega)]
      simp
    simp only [eDeal, decide_true, Bool.not_true, br_false, beq_self_eq_true, ob_some]
    rw [F.xi, ob_some, F.xs, ob_some]
    simp only [decide_true, Bool.not_true, br_false, beq_self_eq_true, ob_some]
    exact tail _ (play_J2 hn F.e F.cnt F.last F.le F.bd)
  · obtain ⟨n1, n2⟩ := play_no (n := n) hr
    have z1 : i_PlayDeal n r = some (0, 0, false, []) := by unfold i_PlayDeal; rw [n1]; rfl
    have z3 : s_NewDeal n r = some (0, 0, false, []) := by unfold s_NewDeal; rw [n2]; rfl
    have z2 : s_PlayDeal n r = some (0, 0, false, []) := by unfold s_PlayDeal; rw [z3]; rfl
    have z4 : i_DealSizes n r = some (false, []) := by unfold i_DealSizes; rw [n1]; rfl
    have z5 : s_DealSizes n r = some (false, []) := by unfold s_DealSizes; rw [z3]; rfl
    have z6 : i_NewDeal n r = some (0, 0, false, []) := by unfold i_NewDeal; rw [n1]; rfl
    have z7 : i_NextSeed n r = some (0, false) := by unfold i_NextSeed; rw [n1]; rfl
    have z8 : s_NextSeed n r = some (0, false) := by unfold s_NextSeed; rw [n2]; rfl
    rw [z1, ob_some, z2, ob_some]
    simp only []
    rw [v_rHand_eq2 hn (a := []) (by simp)]
    simp only [decide_true, Bool.not_true, br_false, beq_self_eq_true, ob_some]
    rw [z4, ob_some, z5, ob_some]
    simp only []
    rw [v_rInts_eq hn (a := []) (by simp)]
    simp only [decide_true, Bool.not_true, br_false, beq_self_eq_true, ob_some]
    rw [z6, ob_some, z3, ob_some]
    have eDeal : v_rDeal n (0, ((0 : Int), [])) (0, ((0 : Int), [])) = some true := by
      unfold v_rDeal
      simp only [decide_true, br_true, ob_some]
      rw [v_rHand_eq2 hn (a := []) (by simp)]
      simp
    simp only [eDeal, decide_true, Bool.not_true, br_false, beq_self_eq_true, ob_some]
    rw [z7, ob_some, z8, ob_some]
    simp only [decide_true, Bool.not_true, br_false, beq_self_eq_true, ob_some]
    exact tail _ rfl
end Go.Pl

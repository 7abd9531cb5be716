/- Plain laws: R55. -/
import Derived.Test.YtklhncjpkkfjmaaLLGr3
set_option linter.unusedVariables false
set_option linter.unusedSimpArgs false
namespace Go.Pl
open Go Go.Tv Go.RowKit
set_option linter.unusedVariables false
set_option linter.unusedSimpArgs false

def poolB (h : List Card) : Bool := hand h && decide (h.length ≤ 15)
theorem s_l3Pool_eq {n : Nat} (hn : BIG ≤ n) {h : List Card} (hl : h.length ≤ 1048576) : s_l3Pool n h = some (poolB h) := by
  unfold s_l3Pool poolB
  rw [s_l2Hand_eq hn (by omega)]
  have e : decide ((h.length : Int) ≤ 15) = decide (h.length ≤ 15) := by congr 1; apply propext; omega
  rw [e]
  cases hand h <;> rfl
theorem i_isPool_eq {n : Nat} (hn : BIG ≤ n) {h : List Card} (hl : h.length ≤ 1048576) : i_isPool n h = some (poolB h) := by
  unfold i_isPool poolB
  rw [i_IsHand_eq hn (by omega)]
  have e : decide ((h.length : Int) ≤ 15) = decide (h.length ≤ 15) := by congr 1; apply propext; omega
  rw [e]
  cases hand h <;> rfl
theorem i_greatestCap_eq {n : Nat} (hn : BIG ≤ n) {h : List Card} (H : HandL h) (h15 : h.length ≤ 15) : i_greatestCap n h = some (iz (GB h)) := by
  unfold i_greatestCap i_caps'll_i_greatestCap_1p_o
  have := cg_R hn H h15 n 0 [] [] (Nat.zero_le _) (pk_nil 0) (big_gt hn (by omega))
  rw [Nat.sub_zero] at this
  have e : fx (i_caps'll_i_greatestCap_1p_o_R n) n (h, 0, [], []) = some (iz (GB h)) := this
  rw [e]; rfl
theorem s_search_eq {n : Nat} (hn : BIG ≤ n) {h : List Card} (H : HandL h) : s_l3Search'lk n h [] 0 = some (iz (GB h)) := by
  have hl := H.len
  have := s_search hn H n 0 [] (Nat.zero_le _) (pk_nil 0) (big_gt hn (by omega))
  rw [Nat.sub_zero] at this
  exact this
def CC (h : List Card) (a : Int) : Int × Bool := if poolB h && decide (0 ≤ a ∧ a ≤ 15) then ((cntX h a : Int), true) else (0, false)
theorem i_CountCaps_eq {n : Nat} (hn : BIG ≤ n) {h : List Card} (hl : h.length ≤ 1048576) (a : Int) : i_CountCaps n h a = some (CC h a) := by
  unfold i_CountCaps CC
  rw [i_isPool_eq hn hl, ob_some, i_within_eq]
  cases hp : poolB h with
  | false => rfl
  | true =>
    cases ha : decide (0 ≤ a ∧ a ≤ 15) with
    | false => rfl
    | true =>
      unfold poolB at hp
      rw [Bool.and_eq_true, decide_eq_true_iff] at hp
      have H := HandL.of hp.1
      have h215 : 2 ^ h.length ≤ 32768 := Nat.le_trans (Nat.pow_le_pow_right (by omega) hp.2) (by decide)
      have := cc_R hn H hp.2 a n 0 [] 0 (Nat.zero_le _) (pk_nil 0) (big_gt hn (by omega)) (by rw [Nat.sub_zero]; omega)
      rw [Nat.sub_zero, Nat.zero_add] at this
      have e : i_caps'll_i_CountCaps_1pp n h 0 [] a 0 = some (a, (cntX h a : Int)) := this
      simp only [ob_some, Bool.not_true, br_false]
      rw [e]; rfl
theorem s_CountCaps_eq {n : Nat} (hn : BIG ≤ n) {h : List Card} (hl : h.length ≤ 1048576) (a : Int) : s_CountCaps n h a = some (CC h a) := by
  unfold s_CountCaps CC
  rw [s_l3Pool_eq hn hl, ob_some, s_l1In_eq]
  cases hp : poolB h with
  | false => rfl
  | true =>
    cases ha : decide (0 ≤ a ∧ a ≤ 15) with
    | false => rfl
    | true =>
      unfold poolB at hp
      rw [Bool.and_eq_true, decide_eq_true_iff] at hp
      have ha := of_decide_eq_true ha
      have H := HandL.of hp.1
      obtain ⟨l, rfl⟩ : ∃ l : Nat, a = l := ⟨a.toNat, by omega⟩
      have := s_count3 hn H hp.2 n 0 [] l (Nat.zero_le _) (pk_nil 0) (by omega) (big_gt hn (by omega))
      rw [Nat.sub_zero] at this
      have e2 : (fun L : List Nat => decide (L.length = ([] : List Nat).length + l)) = cntB (l : Int) := funext fun L => by
        unfold cntB
        congr 1; apply propext; simp; omega
      rw [e2] at this
      have e : s_l3Count n h [] 0 (l : Int) = some (cntX h (l : Int) : Int) := this
      simp only [ob_some, Bool.not_true, br_false]
      rw [e]; rfl
theorem v_vPick_eq {n : Nat} (hn : BIG ≤ n) (h : List Card) {I : List Nat} (hb : ∀ i ∈ I, i < h.length) (hl : I.length ≤ 1000000) : v_vPick n h (iz I) = some (I.map (gz h)) := by
  unfold v_vPick
  have := fx_app (B := v_vPick_L1 n) I.length (fun i a => (h, iz I, (i : Int), a)) (fun k => [gz h (gl 0 I k)]) some 1000000 (fun self i a hi hM => by
    simp only [v_vPick_L1, lt_eq]
    have e : gl (0 : Int) (iz I) i = ((gl 0 I i : Nat) : Int) := iz_gl hi
    have hlt : gl 0 I i < h.length := hb _ (glI_mem hi)
    simp only [List.length_singleton] at hM
    have hin : inb (i : Int) (iz I).length = true := inb_ok (by rw [iz_len]; exact hi)
    rw [iz_len] at hin ⊢
    rw [br_pos (decide_eq_true (show (i : Int) < (I.length : Int) by omega)), ckb_pos hin, toNat_cast, e, br_pos (decide_eq_true (show (0 : Int) ≤ ((gl 0 I i : Nat) : Int) by omega)), ckb_pos hin, ob_some, br_pos (decide_eq_true (show ((gl 0 I i : Nat) : Int) < (h.length : Int) by omega)), ckb_pos hin, ckb_pos (inb_ok hlt), ckb_pos (apok_ok (by omega) (by omega)), w64_succ (by omega), toNat_cast]) (fun self a => by
    simp only [v_vPick_L1, iz_len]
    rw [br_neg (decide_eq_false (by omega))]) n 0 [] (Nat.zero_le _) (big_gt hn (by omega)) (by
      have := flen (l := List.range' 0 (I.length - 0)) (f := fun k => [gz h (gl 0 I k)]) (M := 1) fun _ _ => Nat.le_refl _
      rw [List.length_range'] at this
      simp only [List.length_nil]; omega)
  rw [List.nil_append] at this
  refine this.trans ?_
  congr 1
  rw [← List.map_eq_flatMap]
  refine List.ext_getElem (by simp) fun i h1 h2 => ?_
  rw [List.length_map, List.length_range'] at h1
  rw [List.getElem_map, List.getElem_map, List.getElem_range']
  rw [gl_eq (by omega)]
  simp
theorem vPick_cap {n : Nat} (hn : BIG ≤ n) {h : List Card} (hh : hand h = true) {L : List Nat} (hL : L ∈ allX h) : v_vPick n h (iz L) = some (L.map (gz h)) ∧ i_IsCap n (L.map (gz h)) = some (true, true) := by
  have H := HandL.of hh
  have h27 := hand_len hh
  obtain ⟨P, hc⟩ := allX_cap H hL
  have hl := P.len
  have hph := pk_hand hh P
  refine ⟨v_vPick_eq hn h P.lt (by omega), ?_⟩
  rw [i_IsCap_eq hn (by rw [List.length_map]; omega)]
  unfold IC
  rw [hph, (capB_iff (HandL.of hph)).2 hc]; rfl

/-! draws -/
theorem pool3_ok {n : Nat} (hn : BIG ≤ n) {m : Nat} {c : Cu} (hc : CuOK m c) (hm : m + 300 < 4611686018427300000) : HandR n (m + 300) (s_Cur_pool3'p n c) := by
  unfold s_Cur_pool3'p
  obtain ⟨c1, h, e1, hl, k1⟩ := hand_ok hn hc (by omega)
  rw [e1, ob_some]
  have J1 : ∀ (b : Bool) (c : Cu) (m' : Nat), CuOK m' c → m' ≤ m + 210 → (b = true → 15 < h.length) → HandR n (m + 300) (s_Cur_pool3'p_J1 n (b, c, h)) := by
    intro b c m' hc hm' hb
    unfold s_Cur_pool3'p_J1
    cases b with
    | false => exact ⟨c, h, rfl, hl, hc.mono (by omega)⟩
    | true =>
      have := hb rfl
      simp only [br_true, lt_eq]
      obtain ⟨i, c2, e2, k2, i0, i1⟩ := pick_ok n hc (by omega) (a := 4) (by omega)
      rw [e2, ob_some]
      simp only []
      rw [w64_id (x := 15 - i) (by omega), ckb_pos (slb_ok (by omega) (by omega) (by omega))]
      have hsl : ∀ x y, (sub h x y).length ≤ h.length := fun x y => by unfold sub; rw [List.length_take, List.length_drop]; omega
      have s1 := hsl 0 (0 + (w64 (15 - i - 0)).toNat)
      rw [s_l2Own_eq (by omega), ob_some]
      exact ⟨_, _, rfl, by omega, k2.mono (by omega)⟩
  simp only []
  rw [br_dec]
  split
  · obtain ⟨x, c2, e2, k2⟩ := one_ok n k1 (by omega) (a := 8) (by omega)
    rw [e2, ob_some]
    exact J1 _ _ _ k2 (by omega) fun _ => by omega
  · exact J1 _ _ _ k1 (by omega) fun h => by cases h
theorem DrawGreatestCap_ok {n : Nat} (hn : BIG ≤ n) {a : List Int} (ha : ByB a) : ∃ h, s_DrawGreatestCap n a = some h ∧ h.length ≤ 29 := by
  unfold s_DrawGreatestCap
  obtain ⟨c1, h, e1, hl, k1⟩ := pool3_ok hn (cu0 ha) (by omega)
  rw [lt_eq, e1, ob_some]
  exact ⟨h, rfl, hl⟩
theorem DrawCountCaps_ok {n : Nat} (hn : BIG ≤ n) {a : List Int} (ha : ByB a) : ∃ k h, s_DrawCountCaps n a = some (k, h) ∧ h.length ≤ 29 := by
  unfold s_DrawCountCaps
  obtain ⟨c1, h, e1, hl, k1⟩ := pool3_ok hn (cu0 ha) (by omega)
  rw [lt_eq, e1, ob_some]
  obtain ⟨q, c2, e2, k2, q0, q1⟩ := pick_ok n k1 (by omega) (a := 24) (by omega)
  rw [e2, ob_some]
  simp only [lt_eq]
  have hq : Int.tdiv q 11 = q / 11 := Int.tdiv_eq_ediv_of_nonneg q0
  rw [hq, w64_id (x := q / 11) (by omega), w64_id (x := 8 + q / 11) (by omega), ckb_pos (slb_ok (by omega) (by omega) (by omega)), w64_id (by omega)]
  obtain ⟨s1, s2⟩ := sub_among (l := [3, 2, 4, 5, 0, 1, 6, 15, 16, (-1)]) (k := (8 + q / 11 - 0).toNat) (by simp; omega) (by omega) (-1) 16 (by decide)
  obtain ⟨r, c3, e3, k3, hr⟩ := among_ok n k2 (by omega) s1
  rw [e3, ob_some]
  exact ⟨_, _, rfl, hl⟩

/-! the law -/
theorem d2 : ∀ q : Nat, q < 16 → w64 (Int.tdiv (w64 ((q : Int) * w64 ((q : Int) - 1))) 2) = (c2' q : Int) := by decide +kernel
theorem d3 : ∀ q : Nat, q < 16 → w64 (Int.tdiv (w64 (w64 ((q : Int) * w64 ((q : Int) - 1)) * w64 ((q : Int) - 2))) 6) = (c3' q : Int) := by decide +kernel
theorem gc_J1 {n : Nat} (hn : BIG ≤ n) {h : List Card} (hl : h.length ≤ 29) : v_FnGreatestCaps_J1 n (poolB h, (if poolB h then ((h.length : Int) - (GB h).length) else 0), h, (if poolB h then iz (GB h) else []), (GC h).2) = some true := by
  unfold v_FnGreatestCaps_J1
  cases hp : poolB h with
  | false => rfl
  | true =>
    have hp' := hp
    unfold poolB at hp'
    rw [Bool.and_eq_true, decide_eq_true_iff] at hp'
    obtain ⟨hh, h15⟩ := hp'
    have H := HandL.of hh
    obtain ⟨g1, g2⟩ := GB_ok h
    obtain ⟨P, hc⟩ := allX_cap H g1
    have gl := P.len
    obtain ⟨v1, v2⟩ := vPick_cap hn hh g1
    have eg : (GC h).2 = iz (grK h h.length) := by unfold GC; rw [hh]; rfl
    have hgr := g2 _ (greedy_all h)
    have ecc : CC h ((GB h).length : Int) = ((cntX h ((GB h).length : Int) : Int), true) := by unfold CC; rw [hp, decide_eq_true (show 0 ≤ ((GB h).length : Int) ∧ ((GB h).length : Int) ≤ 15 by omega)]; rfl
    have hpos : 0 < cntX h ((GB h).length : Int) := List.countP_pos_iff.2 ⟨GB h, g1, decide_eq_true rfl⟩
    have hz : cntX h (((GB h).length + 1 : Nat) : Int) = 0 := List.countP_eq_zero.2 fun L hL => by
      have := g2 L hL
      unfold cntB
      simp; omega
    simp only [if_true, Bool.not_true, br_false]
    rw [v1, ob_some, v2, ob_some, iz_len, i_CountCaps_eq hn (by omega), ob_some, ecc, eg, iz_len]
    simp only [Bool.not_true, br_false, ob_some, lt_eq]
    rw [decide_eq_false (show ¬ (cntX h ((GB h).length : Int) : Int) < 1 by omega), decide_eq_false (show ¬ ((GB h).length : Int) < ((grK h h.length).length : Int) by omega), w64_id (x := (h.length : Int) - ((GB h).length : Int)) (by omega), decide_eq_true rfl]
    simp only [Bool.not_true, br_false, ob_some]
    rw [br_dec]
    split
    · rename_i hlt
      have ecc2 : CC h (((GB h).length + 1 : Nat) : Int) = (0, true) := by
        unfold CC
        rw [hp, decide_eq_true (show 0 ≤ (((GB h).length + 1 : Nat) : Int) ∧ (((GB h).length + 1 : Nat) : Int) ≤ 15 by omega), hz]; rfl
      rw [w64_succ (by omega), i_CountCaps_eq hn (by omega), ob_some, ecc2]; rfl
    · rfl
theorem gc_J2 {n : Nat} (hn : BIG ≤ n) {h : List Card} (hl : h.length ≤ 29) : v_FnGreatestCaps_J2 n (poolB h, (if poolB h then ((h.length : Int) - (GB h).length) else 0), (GC h).1, h, (if poolB h then iz (GB h) else []), (GC h).2) = some true := by
  unfold v_FnGreatestCaps_J2
  have J1 := gc_J1 hn hl
  cases hh : hand h with
  | false =>
    have e : (GC h).1 = false := by unfold GC; rw [hh]; rfl
    rw [e]
    exact J1
  | true =>
    have e : (GC h).1 = true := by unfold GC; rw [hh]; rfl
    have eg : (GC h).2 = iz (grK h h.length) := by unfold GC; rw [hh]; rfl
    obtain ⟨v1, v2⟩ := vPick_cap hn hh (greedy_all h)
    rw [eg] at J1 ⊢
    rw [e]
    simp only [br_true]
    rw [v1, ob_some, v2, ob_some]
    exact J1
theorem law_FnGreatestCaps {n : Nat} (hn : BIG ≤ n) (a : List Int) (ok : (Ty.sl (.int .u8)).ok a) : v_FnGreatestCaps n a = some true := by
  have hb : ByB a := ok_bytes' ok
  unfold v_FnGreatestCaps v_vBig
  rw [ob_some, br_dec]
  split
  · rfl
  rename_i hbig
  obtain ⟨h, e1, hl⟩ := DrawGreatestCap_ok hn hb
  obtain ⟨b, e2, hb', bl⟩ := vCut_ok (n := n) hb (by omega) (k := 1) (by omega)
  obtain ⟨k, u, e3, ul⟩ := DrawCountCaps_ok hn hb'
  have e2 : v_vCut n a 1 = some b := e2
  have J2 := gc_J2 hn hl
  -- what the functions answer
  have gI : i_GreatestCap n h = some (poolB h, if poolB h then iz (GB h) else []) ∧ s_GreatestCap n h = some ((if poolB h then iz (GB h) else []), poolB h) ∧ i_FewestDrops n h = some ((if poolB h then ((h.length : Int) - (GB h).length) else 0), poolB h) ∧ s_FewestDrops n h = some ((if poolB h then ((h.length : Int) - (GB h).length) else 0), poolB h) := by
    unfold i_GreatestCap s_GreatestCap i_FewestDrops s_FewestDrops
    rw [i_isPool_eq hn (by omega), s_l3Pool_eq hn (by omega)]
    cases hp : poolB h with
    | false => exact ⟨rfl, rfl, rfl, rfl⟩
    | true =>
      have hp' := hp
      unfold poolB at hp'
      rw [Bool.and_eq_true, decide_eq_true_iff] at hp'
      have H := HandL.of hp'.1
      obtain ⟨g1, g2⟩ := GB_ok h
      have gl := (allX_cap H g1).1.len
      rw [i_greatestCap_eq hn H hp'.2, s_search_eq hn H]
      simp only [ob_some, Bool.not_true, br_false, lt_eq, iz_len, if_true]
      rw [w64_id (by omega)]
      simp
  obtain ⟨g1, g2, g3, g4⟩ := gI
  have lgb : (if poolB h then iz (GB h) else []).length ≤ 100 := by
    split
    · rename_i hp
      unfold poolB at hp
      rw [Bool.and_eq_true, decide_eq_true_iff] at hp
      have := (allX_cap (HandL.of hp.1) (GB_ok h).1).1.len
      rw [iz_len]; omega
    · simp
  have lgc : (GC h).2.length ≤ 100 := by
    unfold GC
    split
    · have := grK_len h h.length
      rw [List.length_map]; omega
    · simp
  rw [e1, ob_some, g1, ob_some, g2, ob_some, g3, ob_some, g4, ob_some, i_GreedyCap_eq hn (by omega), ob_some, s_GreedyCap_eq hn (by omega), ob_some, e2, ob_some, e3, ob_some]
  simp only []
  rw [i_CountCaps_eq hn (by omega), ob_some, s_CountCaps_eq hn (by omega), ob_some]
  rw [v_vInts_eq hn (by omega), v_vInts_eq hn (by omega)]
  have e8 : (br (poolB h) (some (!(GC h).1)) (some false)) = some false := by
    unfold GC poolB
    cases hand h <;> cases decide (h.length ≤ 15) <;> rfl
  simp only [beq_self_eq_true, Bool.not_true, br_false, ob_some, decide_true, e8]
  by_cases hx : (poolB u && decide (0 ≤ k ∧ k ≤ 15)) = true
  · have ecc : CC u k = ((cntX u k : Int), true) := by unfold CC; rw [if_pos hx]
    rw [Bool.and_eq_true, decide_eq_true_iff] at hx
    obtain ⟨hp, k0, k15⟩ := hx
    unfold poolB at hp
    rw [Bool.and_eq_true, decide_eq_true_iff] at hp
    obtain ⟨hu, u15⟩ := hp
    have H := HandL.of hu
    have h3 := cntX_3 H.nd
    have h729 := lines_len27 hu
    rw [ecc]
    simp only [br_true]
    rw [i_LinesIn_eq hn (by omega), ob_some, hu]
    simp only [if_true, Bool.not_true, br_false, ob_some, lt_eq]
    have c0 : (br (decide (k = 0)) (some (!decide ((cntX u k : Int) = 1))) (some false)) = some false := by
      by_cases e : k = 0
      · subst e; rw [cntX_0]; rfl
      · rw [br_neg (decide_eq_false e)]
    have c1 : (br (decide (k = 1)) (some (!decide ((cntX u k : Int) = (u.length : Int)))) (some false)) = some false := by
      by_cases e : k = 1
      · subst e
        have : cntX u 1 = u.length := (cntX_succ u 0).trans (Y1 u _ _)
        rw [this, br_pos (decide_eq_true rfl), decide_eq_true rfl]; rfl
      · rw [br_neg (decide_eq_false e)]
    have c2 : (br (decide (k = 2)) (some (!decide ((cntX u k : Int) = w64 (Int.tdiv (w64 ((u.length : Int) * w64 ((u.length : Int) - 1))) 2)))) (some false)) = some false := by
      by_cases e : k = 2
      · subst e
        have : cntX u 2 = c2' u.length := (cntX_succ u 1).trans (Y2 u _ _)
        rw [this, d2 u.length (by omega), br_pos (decide_eq_true rfl), decide_eq_true rfl]; rfl
      · rw [br_neg (decide_eq_false e)]
    have c3 : (br (decide (k = 3)) (some (!decide ((cntX u k : Int) = w64 (w64 (Int.tdiv (w64 (w64 ((u.length : Int) * w64 ((u.length : Int) - 1)) * w64 ((u.length : Int) - 2))) 6) - ((linesOf u).length : Int))))) (some false)) = some false := by
      by_cases e : k = 3
      · subst e
        have hb3 : c3' u.length ≤ 1000000 := by
          have : ∀ q : Nat, q < 16 → c3' q ≤ 1000000 := by decide +kernel
          exact this _ (by omega)
        rw [d3 u.length (by omega), w64_id (by omega), br_pos (decide_eq_true rfl), decide_eq_true (by omega)]; rfl
      · rw [br_neg (decide_eq_false e)]
    simp only [c0, c1, c2, c3, br_false, ob_some]
    exact J2
  · have ecc : CC u k = (0, false) := by unfold CC; rw [if_neg hx]
    rw [ecc]
    exact J2
end Go.Pl

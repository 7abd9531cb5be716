/- Plain laws: R43. -/
import Derived.Test.YtbkbkaonjhlplaaLLCp
set_option linter.unusedVariables false
set_option linter.unusedSimpArgs false
namespace Go.Pl
open Go Go.Tv Go.RowKit
set_option linter.unusedVariables false
set_option linter.unusedSimpArgs false

theorem mem_prs {h : List Card} {c : Card} {x : V2 Int} (hx : x ∈ prs h c) : ∃ i j : Nat, x = ⟨(i : Int), (j : Int)⟩ ∧ i < j ∧ j < h.length ∧ lineB (gz h i) (gz h j) c = true := by
  unfold prs pr2 at hx
  simp only [List.mem_flatMap, List.mem_range'_1] at hx
  obtain ⟨i, ⟨_, hi⟩, j, ⟨hj1, hj2⟩, hx⟩ := hx
  unfold pr1 at hx
  split at hx
  · rename_i hl
    exact ⟨i, j, List.mem_singleton.1 hx, by omega, by omega, hl⟩
  · cases hx
theorem outs_count {h : List Card} {b : Bool} : (outs h b).length = S 81 fun k => b2 (outOK h b k) := by
  unfold outs
  rw [List.length_flatMap, ← S_range' _ 81]
  congr 1
  refine List.map_congr_left fun k _ => ?_
  cases outOK h b k <;> rfl
theorem all81 {h : List Card} (H : HandL h) : h.length + (outs h true).length + (outs h false).length = 81 := by
  rw [outs_count, outs_count]
  have h1 := restK_len h 81
  have h2 := rest_len H
  unfold rest at h2
  have h3 : (S 81 fun k => b2 (outOK h true k)) + (S 81 fun k => b2 (outOK h false k)) + (S 81 fun i => b2 (h.contains (cardAt i))) = 81 := by
    rw [← S_add, ← S_add]
    have : (S 81 fun i => b2 (outOK h true i) + b2 (outOK h false i) + b2 (h.contains (cardAt i))) = S 81 fun _ => 1 := S_congr fun k _ => by
      unfold outOK
      cases h.contains (cardAt (k : Int)) <;> cases decide (0 < thr h (cardAt (k : Int))) <;> rfl
    rw [this, S_const]
  omega
theorem outs_dis {h : List Card} {x : Int} (hx : x ∈ outs h false) : (outs h true).contains x = false := by
  rw [← Bool.not_eq_true, List.contains_iff_mem]
  intro hy
  obtain ⟨k, e, hk, h1⟩ := mem_outs.1 hx
  obtain ⟨j, e', hj, h2⟩ := mem_outs.1 hy
  have : j = k := by omega
  subst this
  unfold outOK at h1 h2
  cases h.contains (cardAt (j : Int)) <;> cases decide (0 < thr h (cardAt (j : Int))) <;> simp_all
theorem ss_len {h d : List Card} (hs : h.Nodup) (ds : d.Nodup) (hm : ∀ c, c ∈ h ↔ c ∈ d) : h.length = d.length := by
  have h1 := len_sub' hs fun c hc => (hm c).1 hc
  have h2 := len_sub' ds fun c hc => (hm c).2 hc
  omega
theorem fill_len {h : List Card} (hh : hand h = true) (hcap : CapP h) : ((fillD h).length = h.length) ↔ outs h false = [] := by
  have H := HandL.of hh
  have D := fillD_ok H hcap
  constructor
  · intro e
    refine outs_nil.2 fun j hj => ?_
    rw [← Bool.not_eq_true]
    intro ho
    have hsub : ∀ c ∈ fillD h, c ∈ h := fun c hc => by
      refine Classical.byContradiction fun hn => ?_
      have hnd : (c :: h).Nodup := List.nodup_cons.2 ⟨hn, H.nd⟩
      have := len_sub' hnd (L := fillD h) fun x hx => by
        rcases List.mem_cons.1 hx with rfl | hx
        · exact hc
        · exact D.sub x hx
      rw [List.length_cons] at this; omega
    have DH := D.ss.handL D.c
    have := outOK_mem H DH (fun c => ⟨D.sub c, hsub c⟩) j
    rw [D.full j hj, ho] at this; cases this
  · intro e
    have e1 : fillA h 81 = fillA h 0 := fillA_skip (Nat.zero_le _) fun j _ hj => outs_nil.1 e j hj
    have e2 : fillD h = h := by
      unfold fillD
      rw [e1]
      obtain ⟨h1, h2, _⟩ := hand_iff.1 hh
      exact sortd_id h1 h2
    rw [e2]
theorem L1_ok {n : Nat} (hn : BIG ≤ n) (go : Bool × Bool × Bool × Int × List Card × List Card → Opt Bool) (f d t : Bool) {h e : List Card} (hl : h.length ≤ 1000) (el : e.length ≤ 1000) {i : Nat} (hi : i < h.length) (hm : gz h i ∈ e) :
    fx (v_FnCaps_L1 n go) n (f, d, t, (i : Int), false, 0, h, e) = go (f, d, t, ((i + 1 : Nat) : Int), h, e) := by
  have := fx_cnt (B := v_FnCaps_L1 n go) e.length (fun k => (f, d, t, (i : Int), (e.take k).contains (gz h i), (k : Int), h, e)) (fun _ => True) (fun _ => go (f, d, t, ((i + 1 : Nat) : Int), h, e)) (fun self k hk _ ih => by
    simp only [v_FnCaps_L1, lt_eq]
    by_cases h1 : k < e.length
    · rw [br_pos (decide_eq_true (show (k : Int) < (e.length : Int) by omega)), ckb_pos (inb_ok h1), ckb_pos (inb_ok hi), toNat_cast, toNat_cast, w64_succ (by omega), ← ih h1 trivial]
      have e1 : (e.take (k + 1)).contains (gz h i) = ((e.take k).contains (gz h i) || decide (gz e k = gz h i)) := by
        have : gl (⟨0, 0, 0, 0⟩ : Card) e k = e[k] := gl_eq h1
        rw [Bool.eq_iff_iff, List.contains_iff_mem, List.take_succ_eq_append_getElem h1, List.mem_append, List.mem_singleton, Bool.or_eq_true, List.contains_iff_mem, decide_eq_true_iff]
        show _ ↔ _ ∨ gl _ e k = _
        rw [this]
        exact or_congr Iff.rfl eq_comm
      rw [e1]
      cases (e.take k).contains (gz h i) with
      | true => rfl
      | false => rfl
    · have : k = e.length := by omega
      subst this
      rw [br_neg (decide_eq_false (by omega)), List.take_length, List.contains_iff_mem.2 hm, w64_succ (by omega)]; rfl) n 0 (Nat.zero_le _) trivial (big_gt hn (by omega))
  exact this
theorem J4_ok {n : Nat} (hn : BIG ≤ n) {h : List Card} (hh : hand h = true) : v_FnCaps_J4 n (capB h, true, capB h && decide (((outs h false).length : Int) = 0), (FC h).1, h, outs h true, outs h false, (FC h).2) = some true := by
  have H := HandL.of hh
  have hl := hand_len hh
  have ha := all81 H
  unfold v_FnCaps_J4
  rw [Bool.not_true, br_false, i_LinesIn_eq (h := h) hn (by omega), ob_some, hh]
  simp only [if_true, Bool.not_true, br_false, lt_eq, ob_some]
  have e1 : decide (((linesOf h).length : Int) = 0) = capB h := by unfold capB; congr 1; apply propext; omega
  rw [e1, w64_id (x := (h.length : Int) + _) (by omega), w64_id (by omega), decide_eq_true (show (h.length : Int) + ((outs h true).length : Int) + ((outs h false).length : Int) = 81 by omega)]
  have e2 : (br (capB h) (some (decide (((outs h false).length : Int) = 0))) (some false)) = some (capB h && decide (((outs h false).length : Int) = 0)) := by cases capB h <;> rfl
  simp only [beq_self_eq_true, Bool.not_true, br_false, ob_some, e2]
  have L3 := fx_cnt (B := v_FnCaps_L3 n) (outs h false).length (fun i => (capB h && decide (((outs h false).length : Int) = 0), (FC h).1, (i : Int), h, outs h true, outs h false, (FC h).2)) (fun _ => True) (fun _ => some true) (fun self i hi _ ih => by
    simp only [v_FnCaps_L3, lt_eq]
    by_cases h1 : i < (outs h false).length
    · rw [br_pos (decide_eq_true (show (i : Int) < ((outs h false).length : Int) by omega)), ckb_pos (inb_ok h1), toNat_cast, gl_eq h1, v_vHas_eq hn (by omega), ob_some, outs_dis (List.getElem_mem h1), br_false, w64_succ (by omega)]
      exact ih h1 trivial
    · have : i = (outs h false).length := by omega
      rw [br_neg (decide_eq_false (by omega))]
      cases hc : capB h with
      | false =>
        have : (FC h).1 = false := by unfold FC; rw [hh, hc]; rfl
        rw [this]; rfl
      | true =>
        have hcap := (capB_iff H).1 hc
        have D := fillD_ok H hcap
        have Dh := D.hand
        have e3 : FC h = (true, fillD h) := by unfold FC; rw [hh, hc]; rfl
        have fl := cap_len D.c D.ss.nodup D.cap
        have fle := fill_len hh hcap
        have e4 : FU (fillD h) = (true, true) := by
          unfold FU
          rw [Dh, (capB_iff (HandL.of Dh)).2 D.cap, outs_nil.2 D.full]; rfl
        rw [e3]
        generalize fillD h = e at D Dh fl fle e4
        rw [i_IsFullCap_eq (h := e) hn (by omega), ob_some, e4]
        rw [Bool.not_true, br_false]
        simp only []
        have L2 := fx_cnt (B := v_FnCaps_L2 n) h.length (fun i => (true && decide (((outs h false).length : Int) = 0), true, true, (i : Int), h, e)) (fun _ => True) (fun _ => some true) (fun self i hi _ ih => by
          simp only [v_FnCaps_L2]
          by_cases h1 : i < h.length
          · rw [br_pos (decide_eq_true (show (i : Int) < (h.length : Int) by omega)), L1_ok hn self _ _ _ (by omega) (by omega) h1 (D.sub _ (mem_gz.2 ⟨i, h1, rfl⟩))]
            exact ih h1 trivial
          · rw [br_neg (decide_eq_false (by omega))]
            have e5 : decide ((e.length : Int) = (h.length : Int)) = decide (((outs h false).length : Int) = 0) := by
              congr 1; apply propext
              rw [← List.length_eq_zero_iff] at fle
              omega
            rw [e5, decide_eq_true (show (e.length : Int) ≤ 20 by omega)]
            simp) n 0 (Nat.zero_le _) trivial (big_gt hn (by omega))
        exact L2) n 0 (Nat.zero_le _) trivial (big_gt hn (by omega))
  exact L3
theorem L5_ok {n : Nat} (hn : BIG ≤ n) (x1 x2 x3 x4 : Bool) (h : List Card) (bl fr : List Int) (fi : List Card) {u : List Card} (hu : hand u = true) {c : Card} (hc : isC c = true) :
    fx (v_FnCaps_L5 n) n (x1, x2, x3, x4, 0, h, bl, fr, fi, u, c, prs u c) = v_FnCaps_J4 n (x1, x2, x3, x4, h, bl, fr, fi) := by
  have H := HandL.of hu
  have hl := H.len
  have hb := thr_len (h := u) (c := c)
  have hb2 : u.length * u.length ≤ 100 * 100 := Nat.mul_le_mul hl hl
  unfold thr at hb
  have hP : ∀ x ∈ prs u c, ∃ i j : Nat, x = ⟨(i : Int), (j : Int)⟩ ∧ i < j ∧ j < u.length ∧ lineB (gz u i) (gz u j) c = true := fun x hx => mem_prs hx
  generalize prs u c = P at hb hP
  have := fx_cnt (B := v_FnCaps_L5 n) P.length (fun k => (x1, x2, x3, x4, (k : Int), h, bl, fr, fi, u, c, P)) (fun _ => True) (fun _ => v_FnCaps_J4 n (x1, x2, x3, x4, h, bl, fr, fi)) (fun self k hk _ ih => by
    simp only [v_FnCaps_L5, lt_eq]
    by_cases h1 : k < P.length
    · obtain ⟨i, j, e, hij, hj, hline⟩ := hP _ (List.getElem_mem h1)
      rw [br_pos (decide_eq_true (show (k : Int) < (P.length : Int) by omega)), ckb_pos (inb_ok h1), toNat_cast, gl_eq h1, e]
      simp only [toNat_cast]
      rw [ckb_pos (inb_ok (show i < u.length by omega)), ckb_pos (inb_ok h1), ckb_pos (inb_ok hj), i_IsLine_eq hn, ob_some, w64_succ (by omega)]
      have e1 : I3 (gl ⟨0, 0, 0, 0⟩ u i) (gl ⟨0, 0, 0, 0⟩ u j) c = (true, true) := by
        unfold I3
        rw [gl_C H.c (show i < u.length by omega), gl_C H.c hj, hc]
        show (lineB (gz u i) (gz u j) c, true) = _
        rw [hline]
      rw [e1]
      exact ih h1 trivial
    · rw [br_neg (decide_eq_false (by omega))]) n 0 (Nat.zero_le _) trivial (big_gt hn (by omega))
  exact this
theorem DrawIsCap_ok {n : Nat} (hn : BIG ≤ n) {a : List Int} (ha : ByB a) : ∃ h, s_DrawIsCap n a = some h ∧ h.length ≤ 81 := by
  unfold s_DrawIsCap
  obtain ⟨c1, h, e1, hl, k1⟩ := cap3_ok hn (cu0 ha) (by omega)
  rw [lt_eq, e1, ob_some]
  exact ⟨h, rfl, hl⟩
theorem cardOf_J1 {n : Nat} {m : Nat} {c : Cu} (hc : CuOK m c) (hm : m < 4611686018427300000) {h : List Card} (b : Bool) (hb : b = true → 0 < h.length) (z : Card) : ∃ r c', s_Cur_cardOf'pl_J1 n (h, b, c, z) = some (r, c') ∧ CuOK (m + 8) c' := by
  unfold s_Cur_cardOf'pl_J1
  cases b with
  | true =>
    have := hb rfl
    simp only [br_true]
    obtain ⟨i, c1, e1, k1, i0, i1⟩ := pick_ok n hc (by omega) (a := (h.length : Int)) (by omega)
    rw [e1, ob_some, ckb_pos (inb_pos i0 i1)]
    exact ⟨_, _, rfl, k1.mono (by omega)⟩
  | false =>
    obtain ⟨r, c1, e1, k1⟩ := card_ok n hc (by omega)
    simp only [br_false]
    rw [e1, ob_some]
    exact ⟨_, _, rfl, k1⟩
theorem cardOf_ok {n : Nat} {m : Nat} {c : Cu} (hc : CuOK m c) (hm : m + 10 < 4611686018427300000) (h : List Card) : ∃ r c', s_Cur_cardOf'pl n h c = some (r, c') ∧ CuOK (m + 10) c' := by
  unfold s_Cur_cardOf'pl
  rw [br_dec]
  split
  · obtain ⟨x, c1, e1, k1⟩ := one_ok n hc (by omega) (a := 3) (by omega)
    rw [e1, ob_some]
    obtain ⟨r, c2, e, k⟩ := cardOf_J1 (n := n) k1 (by omega) (h := h) (!x) (fun _ => by omega) ⟨0, 0, 0, 0⟩
    exact ⟨r, c2, e, k⟩
  · obtain ⟨r, c2, e, k⟩ := cardOf_J1 (n := n) hc (by omega) (h := h) false (fun h => by cases h) ⟨0, 0, 0, 0⟩
    exact ⟨r, c2, e, k.mono (by omega)⟩
theorem DrawCapLines_ok {n : Nat} (hn : BIG ≤ n) {a : List Int} (ha : ByB a) : ∃ c u, s_DrawCapLines n a = some (c, u) ∧ u.length ≤ 81 := by
  unfold s_DrawCapLines
  obtain ⟨c1, h, e1, hl, k1⟩ := cap3_ok hn (cu0 ha) (by omega)
  rw [lt_eq, e1, ob_some]
  simp only []
  rw [s_l2Hand_eq hn (by omega), ob_some]
  have J1 : ∀ (b : Bool) (c : Cu) (m : Nat) (z : Card), CuOK m c → m ≤ 400 → (b = true → hand h = true ∧ 1 < h.length) → ∃ c' u, s_DrawCapLines_J1 n (b, z, c, h) = some (c', u) ∧ u.length ≤ 81 := by
    intro b c m z hc hm hb
    unfold s_DrawCapLines_J1
    cases b with
    | true =>
      obtain ⟨hh, h1⟩ := hb rfl
      simp only [br_true, lt_eq]
      rw [ckb_pos (show inb 0 h.length = true from inb_ok (i := 0) (by omega)), w64_id (x := (h.length : Int) - 1) (by omega)]
      obtain ⟨i, c2, e2, k2, i0, i1⟩ := pick_ok n hc (by omega) (a := (h.length : Int) - 1) (by omega)
      rw [e2, ob_some]
      simp only []
      rw [w64_id (x := 1 + i) (by omega), ckb_pos (inb_pos (by omega) (by omega)), s_l2Third_eq hn (gl_C (hand_all hh) (by omega)) (gl_C (hand_all hh) (by omega)), ob_some]
      exact ⟨_, _, rfl, hl⟩
    | false =>
      simp only [br_false]
      obtain ⟨r, c2, e2, k2⟩ := cardOf_ok (n := n) hc (by omega) h
      rw [e2, ob_some]
      exact ⟨_, _, rfl, hl⟩
  have J2 : ∀ b : Bool, (b = true → hand h = true ∧ 1 < h.length) → ∃ c' u, s_DrawCapLines_J2 n (b, ⟨0, 0, 0, 0⟩, c1, h) = some (c', u) ∧ u.length ≤ 81 := by
    intro b hb
    unfold s_DrawCapLines_J2
    cases b with
    | true =>
      simp only [br_true]
      obtain ⟨x, c2, e2, k2⟩ := one_ok n k1 (by omega) (a := 4) (by omega)
      rw [e2, ob_some]
      exact J1 _ _ _ _ k2 (by omega) fun _ => hb rfl
    | false => simp only [br_false]; exact J1 _ _ _ _ k1 (by omega) fun h => by cases h
  cases hh : hand h with
  | true => rw [br_true]; exact J2 _ fun h1 => ⟨hh, by have := of_decide_eq_true h1; omega⟩
  | false => rw [br_false]; exact J2 _ fun h1 => by cases h1
theorem v_FnCaps_blk {n : Nat} (hn : BIG ≤ n) {u : List Card} (hu : hand u = true) {c : Card} (hc : isC c = true) (hnc : u.contains c = false) : (outs u true).contains (num c) = decide (0 < ((prs u c).length : Int)) := by
  rw [Bool.eq_iff_iff, List.contains_iff_mem, mem_outs, decide_eq_true_iff]
  have hb := num_bd hc
  constructor
  · rintro ⟨k, e, hk, ho⟩
    unfold outOK at ho
    rw [← e, cardAt_num hc, Bool.and_eq_true] at ho
    have h2 := ho.2
    rw [beq_iff_eq, decide_eq_true_iff] at h2
    unfold thr at h2
    omega
  · intro h
    refine ⟨(num c).toNat, by omega, by omega, ?_⟩
    have e : (((num c).toNat : Nat) : Int) = num c := by omega
    unfold outOK thr
    rw [e, cardAt_num hc, hnc, decide_eq_true (show 0 < (prs u c).length by omega)]; rfl
theorem law_FnCaps {n : Nat} (hn : BIG ≤ n) (a : List Int) (ok : (Ty.sl (.int .u8)).ok a) : v_FnCaps n a = some true := by
  have hb : ByB a := ok_bytes' ok
  unfold v_FnCaps v_vBig
  rw [ob_some, br_dec]
  split
  · rfl
  rename_i hbig
  obtain ⟨h, e1, hl⟩ := DrawIsCap_ok hn hb
  obtain ⟨b, e2, hb', bl⟩ := vCut_ok (n := n) hb (by omega) (k := 1) (by omega)
  obtain ⟨c, u, e3, ul⟩ := DrawCapLines_ok hn hb'
  have e2 : v_vCut n a 1 = some b := e2
  rw [e1, ob_some, i_IsCap_eq hn (by omega), ob_some, s_IsCap_eq hn (by omega), ob_some, i_BlockedCards_eq hn (by omega), ob_some, s_BlockedCards_eq hn (by omega), ob_some, i_FreeCards_eq hn (by omega), ob_some, s_FreeCards_eq hn (by omega), ob_some,
    i_IsFullCap_eq hn (by omega), ob_some, s_IsFullCap_eq hn (by omega), ob_some, i_FillCap_eq hn (by omega), ob_some, s_FillCap_eq hn (by omega), ob_some, e2, ob_some, e3, ob_some]
  simp only []
  rw [i_CapLines_eq hn (by omega), ob_some, s_CapLines_eq hn (by omega), ob_some]
  have fcl := FC_len h
  have bkl : ∀ b, (BK b h).2.length ≤ 81 := fun b => by
    unfold BK; split
    · exact outs_len
    · simp
  have cll : (CL u c).2.length ≤ 1000000 := by
    unfold CL; split
    · rename_i hx
      simp only [Bool.and_eq_true] at hx
      have H := HandL.of hx.1.1
      have hl := H.len
      have hb := thr_len (h := u) (c := c)
      have hb2 : u.length * u.length ≤ 100 * 100 := Nat.mul_le_mul hl hl
      unfold thr at hb
      simp only []; omega
    · simp
  rw [v_vInts_eq hn (by have := bkl true; omega), v_vInts_eq hn (by have := bkl false; omega), v_vHands_eq hn (by omega), v_vPairs_eq hn (by omega)]
  have e4 : (IC h).2 = hand h := by unfold IC; cases hand h <;> rfl
  have e5 : ∀ b, (BK b h).1 = hand h := fun b => by unfold BK; cases hand h <;> rfl
  have e6 : (FU h).2 = hand h := by unfold FU; cases hand h <;> rfl
  have e7 : (FC h).1 = (hand h && (IC h).1) := by
    unfold FC IC
    generalize fillD h = d
    cases hand h <;> cases capB h <;> rfl
  have e8 : (br (hand h) (some (IC h).1) (some false)) = some (hand h && (IC h).1) := by cases hand h <;> rfl
  simp only [beq_self_eq_true, Bool.not_true, br_false, ob_some, decide_true, e4, e5, e6, e7, e8]
  have J4 : v_FnCaps_J4 n ((IC h).1, hand h, (FU h).1, (hand h && (IC h).1), h, (BK true h).2, (BK false h).2, (FC h).2) = some true := by
    cases hh : hand h with
    | false => unfold v_FnCaps_J4; rfl
    | true =>
      have := J4_ok hn hh
      have a1 : IC h = (capB h, true) := by unfold IC; rw [hh]; rfl
      have a2 : FU h = (capB h && decide (((outs h false).length : Int) = 0), true) := by unfold FU; rw [hh]; rfl
      have a3 : ∀ b, BK b h = (true, outs h b) := fun b => by unfold BK; rw [hh]; rfl
      rw [e7, hh, a1] at this
      rw [a1, a2, a3, a3]
      exact this
  cases hx : (hand u && isC c && !u.contains c) with
  | false =>
    have : CL u c = (false, []) := by unfold CL; rw [if_neg (by rw [hx]; simp)]
    rw [this]
    exact J4
  | true =>
    have ecl : CL u c = (true, prs u c) := by unfold CL; rw [if_pos hx]
    rw [ecl]
    simp only [Bool.and_eq_true, Bool.not_eq_true'] at hx
    obtain ⟨⟨hu, hc⟩, hnc⟩ := hx
    have a1 : N1 c = (num c, true) := by unfold N1; rw [hc]; rfl
    have a2 : BK true u = (true, outs u true) := by unfold BK; rw [hu]; rfl
    rw [br_true, i_CardNumber_eq hn, ob_some, i_BlockedCards_eq hn (by omega), ob_some, a1, a2]
    simp only [Bool.not_true, br_false, ob_some]
    rw [v_vHas_eq hn (by have := outs_len (h := u) (b := true); omega), v_FnCaps_blk hn hu hc hnc]
    simp only [beq_self_eq_true, Bool.not_true, br_false, ob_some]
    rw [L5_ok hn _ _ _ _ _ _ _ _ hu hc]
    exact J4
end Go.Pl

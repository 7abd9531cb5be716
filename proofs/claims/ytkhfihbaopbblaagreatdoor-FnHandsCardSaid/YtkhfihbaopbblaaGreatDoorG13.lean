/- Plain laws: R34, R25, LDl, R59. -/
import Derived.Test.YtkhfihbaopbblaaGreatDoorG12
import Derived.Test.YtkhfihbaopbblaaGreatDoorG11
set_option linter.unusedVariables false
set_option linter.unusedSimpArgs false
namespace Go.Pl
open Go Go.Tv Go.RowKit
end Go.Pl
namespace Go.Pl
open Go Go.Tv Go.RowKit
end Go.Pl
namespace Go.Pl
open Go Go.Tv Go.RowKit
theorem ssub_size (s : ByteArray) (lo hi : Nat) : (ssub s lo hi).size = min (hi - lo) (s.size - lo) := by
  rw [← bl_len, bl_ssub, List.length_take, List.length_drop, bl_len]
theorem spoilt_ok (n : Nat) {m : Nat} {c : Cu} (h : CuOK m c) (hm : m < 4611686018427370000) {s w : ByteArray} (hs : s.size ≤ 100000) (hw : 1 ≤ w.size) (hw2 : w.size ≤ 100) : ∃ r c', s_Cur_spoilt'p n s w c = some (r, c') ∧ CuOK (m + 10) c' ∧ r.size ≤ s.size + 1 := by
  unfold s_Cur_spoilt'p
  by_cases h0 : s = ⟨#[]⟩
  · rw [eqd_str, decide_eq_true h0, br_true, ckb_pos (slb_ok (by omega) (by omega) (by omega))]
    exact ⟨_, _, rfl, h.mono (by omega), by rw [ssub_size]; omega⟩
  have hs1 : 1 ≤ s.size := by
    refine Decidable.byContradiction fun hh => h0 (bl_inj ?_)
    have : (bl s).length = 0 := by rw [bl_len]; omega
    rw [List.eq_nil_of_length_eq_zero this]; rfl
  rw [eqd_str, decide_eq_false h0, br_false]
  obtain ⟨a, c1, e1, h1, a0, a1⟩ := pick_ok n h (by omega) (a := (s.size : Int)) (by omega)
  obtain ⟨b, c2, e2, h2, b0, b1⟩ := pick_ok n h1 (by omega) (a := (w.size : Int)) (by omega)
  obtain ⟨z, c3, e3, h3, _, _⟩ := pick_ok n h2 (by omega) (a := 3) (by omega)
  obtain ⟨i, rfl⟩ : ∃ k : Nat, a = (k : Int) := ⟨a.toNat, by omega⟩
  obtain ⟨j, rfl⟩ : ∃ k : Nat, b = (k : Int) := ⟨b.toNat, by omega⟩
  have z1 := ssub_size s 0 i
  have z2 := ssub_size (ssub w j w.size) 0 1
  have z3 := ssub_size w j w.size
  have z4 := ssub_size s i s.size
  have z5 := ssub_size s (i + 1) s.size
  rw [e1, ob_some, e2, ob_some, ckb_pos (slb_ok (by omega) (by omega) (by omega)), toNat_cast, ckb_pos (slb_ok (by omega) (by omega) (by omega)), e3, ob_some]
  dsimp only
  have ew : w64 ((i : Int) + 1) = ((i + 1 : Nat) : Int) := w64_succ (by omega)
  by_cases hz0 : z = 0
  · rw [decide_eq_true hz0, br_true, ckb_pos (slb_ok (by omega) (by omega) (by omega)), toNat_cast, ckb_pos (stok_ok (by omega)), lt_eq, ckb_pos (slb_ok (by omega) (by omega) (by omega)), ckb_pos (stok_ok (by rw [app_size]; omega)), lt_eq]
    exact ⟨_, _, rfl, h3.mono (by omega), by rw [app_size, app_size]; omega⟩
  rw [decide_eq_false hz0, br_false]
  by_cases hz1 : z = 1
  · rw [decide_eq_true hz1, br_true, ckb_pos (slb_ok (by omega) (by omega) (by omega)), toNat_cast, ckb_pos (stok_ok (by omega)), lt_eq, ew, lt_eq, ckb_pos (slb_ok (by omega) (by omega) (by omega)), toNat_cast, ckb_pos (stok_ok (by rw [app_size]; omega)), lt_eq]
    exact ⟨_, _, rfl, h3.mono (by omega), by rw [app_size, app_size]; omega⟩
  · rw [decide_eq_false hz1, br_false, ckb_pos (slb_ok (by omega) (by omega) (by omega)), ew, lt_eq, ckb_pos (slb_ok (by omega) (by omega) (by omega)), toNat_cast, toNat_cast, ckb_pos (stok_ok (by omega)), lt_eq]
    exact ⟨_, _, rfl, h3.mono (by omega), by rw [app_size]; omega⟩
end Go.Pl
namespace Go.Pl
open Go Go.Tv Go.RowKit
theorem DrawLinesIn_ok {n : Nat} (hn : BIG ≤ n) {a : List Int} (h : CuOK 0 (a, (0, 0))) : ∃ g, s_DrawLinesIn n a = some g ∧ g.length ≤ 29 := by
  unfold s_DrawLinesIn s_DrawIsHand
  obtain ⟨c1, g, e1, hl, h1⟩ := hand_ok hn h (by omega)
  rw [lt_eq, e1, ob_some, ob_some]
  exact ⟨g, rfl, hl⟩
theorem DrawLinesThrough_ok {n : Nat} (hn : BIG ≤ n) {a : List Int} (h : CuOK 0 (a, (0, 0))) : ∃ c g, s_DrawLinesThrough n a = some (c, g) ∧ g.length ≤ 29 := by
  unfold s_DrawLinesThrough
  obtain ⟨c1, g, e1, hl, h1⟩ := hand_ok hn h (by omega)
  obtain ⟨c, c2, e2, h2⟩ := cardOf_ok (n := n) h1 (by omega) g
  rw [lt_eq, e1, ob_some]
  dsimp only
  rw [e2, ob_some]
  exact ⟨c, g, rfl, hl⟩
theorem DrawWithTrait_ok {n : Nat} (hn : BIG ≤ n) {a : List Int} (h : CuOK 0 (a, (0, 0))) : ∃ k v g, s_DrawWithTrait n a = some (k, v, g) ∧ g.length ≤ 29 := by
  unfold s_DrawWithTrait
  obtain ⟨r1, c1, e1, h1, _, _⟩ := pick_ok n h (by omega) (a := 5) (by omega)
  obtain ⟨r2, c2, e2, h2, _, _⟩ := pick_ok n h1 (by omega) (a := 24) (by omega)
  obtain ⟨r3, c3, e3, h3, _, _⟩ := pick_ok n h2 (by omega) (a := 3) (by omega)
  obtain ⟨r4, c4, e4, h4, _, _⟩ := pick_ok n h3 (by omega) (a := 24) (by omega)
  obtain ⟨r5, c5, e5, h5, _, _⟩ := pick_ok n h4 (by omega) (a := 24) (by omega)
  obtain ⟨c6, g, e6, hl, h6⟩ := hand_ok hn h5 (by omega)
  rw [lt_eq, e1, ob_some]
  dsimp only
  rw [e2, ob_some, lt_eq, lt_eq]
  dsimp only
  rw [e3, ob_some]
  dsimp only
  rw [e4, ob_some, lt_eq, lt_eq]
  dsimp only
  rw [e5, ob_some, lt_eq, lt_eq]
  dsimp only
  rw [e6, ob_some]
  exact ⟨_, _, g, rfl, hl⟩
theorem DrawSort_R {n : Nat} (hn : BIG ≤ n) : ∀ (d : Nat) (m : Nat) (c : Cu) (l : List Card) (fu : Nat), d ≤ 100 → CuOK m c → m + 10 * d < 4611686018427380000 → l.length + 2 * d ≤ 190 → d < fu →
    ∃ l', fx (s_DrawSortCards_L1 n) fu ((d : Int), c, l) = some l' ∧ l'.length ≤ l.length + 2 * d + 1 := by
  intro d
  induction d with
  | zero =>
    intro m c l fu hd hc hm hl hf
    obtain ⟨fu, rfl⟩ : ∃ j, fu = j + 1 := ⟨fu - 1, by omega⟩
    rw [fx_succ]
    generalize fx (s_DrawSortCards_L1 n) fu = g
    unfold s_DrawSortCards_L1
    dsimp only
    obtain ⟨o, c1, e1, h1⟩ := one_ok n hc (by omega) (a := 20) (by omega)
    rw [decide_eq_false (by omega), br_false, e1, ob_some]
    dsimp only
    cases o with
    | true =>
      obtain ⟨r, c2, e2, h2⟩ := card_ok n h1 (by omega)
      rw [br_true, e2, ob_some, ckb_pos (apok_ok (by omega) (by omega))]
      exact ⟨_, rfl, by simp⟩
    | false => exact ⟨l, rfl, by omega⟩
  | succ d ih =>
    intro m c l fu hd hc hm hl hf
    obtain ⟨fu, rfl⟩ : ∃ j, fu = j + 1 := ⟨fu - 1, by omega⟩
    rw [fx_succ]
    obtain ⟨r, c1, e1, h1, r0, r1⟩ := pick_ok n hc (by omega) (a := 81) (by omega)
    obtain ⟨o, c2, e2, h2⟩ := one_ok n h1 (by omega) (a := 4) (by omega)
    have hll : (l ++ [cardAt r]).length = l.length + 1 := by simp
    obtain ⟨q, c3, e3, h3, q0, q1⟩ := pick_ok n h2 (by omega) (a := (((l ++ [cardAt r]).length : Nat) : Int)) (by omega)
    have H := fun c l' (hc : CuOK (m + 10) c) hl' => ih (m + 10) c l' fu (by omega) hc (by omega) hl' (by omega)
    generalize fx (s_DrawSortCards_L1 n) fu = g at H
    unfold s_DrawSortCards_L1
    dsimp only
    have ew : w64 (((d + 1 : Nat) : Int) - 1) = (d : Int) := by rw [w64_id (by omega)]; omega
    rw [decide_eq_true (by omega), br_true, e1, ob_some]
    dsimp only
    rw [s_l2At_eq n ⟨r0, by omega⟩, ob_some, ckb_pos (apok_ok (by omega) (by omega)), e2, ob_some]
    dsimp only
    cases o with
    | true =>
      rw [br_true, e3, ob_some]
      dsimp only
      rw [ckb_pos (inb_pos q0 q1), ckb_pos (apok_ok (by omega) (by omega)), ew, lt_eq]
      obtain ⟨l', p1, p2⟩ := H c3 ((l ++ [cardAt r]) ++ [gl (⟨0, 0, 0, 0⟩ : Card) (l ++ [cardAt r]) q.toNat]) (h3.mono (by omega)) (by simp; omega)
      exact ⟨l', p1, by simp at p2; omega⟩
    | false =>
      rw [br_false, ew, lt_eq]
      obtain ⟨l', p1, p2⟩ := H c2 (l ++ [cardAt r]) (h2.mono (by omega)) (by simp; omega)
      exact ⟨l', p1, by simp at p2; omega⟩
theorem DrawSortCards_ok {n : Nat} (hn : BIG ≤ n) {a : List Int} (h : CuOK 0 (a, (0, 0))) : ∃ l, s_DrawSortCards n a = some l ∧ l.length ≤ 100 := by
  unfold s_DrawSortCards
  obtain ⟨r, c1, e1, h1, hr⟩ := among_ok n h (by omega) (l := [3, 6, 1, 0, 12, 40]) (by simp)
  rw [lt_eq, e1, ob_some]
  dsimp only
  have hr2 : 0 ≤ r ∧ r ≤ 40 := by
    simp only [List.mem_cons, List.mem_nil_iff, or_false] at hr
    omega
  obtain ⟨k, rfl⟩ : ∃ k : Nat, r = (k : Int) := ⟨r.toNat, by omega⟩
  obtain ⟨l, p1, p2⟩ := DrawSort_R hn k 2 c1 [] n (by omega) h1 (by omega) (by simp; omega) (big_gt hn (by omega))
  exact ⟨l, p1, by simp at p2; omega⟩
theorem DrawParse_J1 (n : Nat) {m : Nat} {c : Cu} (h : CuOK m c) (hm : m < 4611686018427360000) {s : ByteArray} (hs : s.size ≤ 1000) : ∃ r, s_DrawParseHand_J1 n (s, c) = some r ∧ r.size ≤ 2000 := by
  unfold s_DrawParseHand_J1
  dsimp only
  obtain ⟨o, c1, e1, h1⟩ := one_ok n h (by omega) (a := 3) (by omega)
  rw [e1, ob_some]
  dsimp only
  cases o with
  | true =>
    obtain ⟨r, c3, e3, h3, hr⟩ := spoilt_ok n h1 (by omega) (s := s) (w := (⟨#[48, 49, 50, 51, 32, 45]⟩ : ByteArray)) (by omega) (by decide) (by decide)
    rw [br_true, e3, ob_some]
    exact ⟨r, rfl, by omega⟩
  | false => exact ⟨s, rfl, by omega⟩
theorem DrawParseHand_ok {n : Nat} (hn : BIG ≤ n) {a : List Int} (h : CuOK 0 (a, (0, 0))) : ∃ s, s_DrawParseHand n a = some s ∧ s.size ≤ 2000 := by
  unfold s_DrawParseHand
  obtain ⟨c1, g, e1, hl, h1⟩ := hand_ok hn h (by omega)
  rw [lt_eq, e1, ob_some]
  dsimp only
  rw [s_l2Hand_eq hn (by omega), ob_some]
  cases hh : hand g with
  | true =>
    obtain ⟨q1, _, q3⟩ := hand_iff.1 hh
    rw [br_true, s_l2Write_eq hn q1 (by omega), ob_some]
    exact DrawParse_J1 n h1 (by omega) (by rw [htx_size]; omega)
  | false =>
    rw [br_false]
    exact DrawParse_J1 n h1 (by omega) (by decide)
theorem FnHands_L1_eq {n : Nat} (hn : BIG ≤ n) {h : List Card} (hh : hand h = true) : fx (v_FnHands_L1 n) n (0, 0, h, linesOf h) = some true := by
  have H := HandL.of hh
  have h27 := hand_len hh
  have hs := sum_thr H
  have hle : ∀ i, i ≤ h.length → (S i fun q => thr h (gz h q)) ≤ i * 10000 := by
    intro i
    induction i with
    | zero => intro _; exact Nat.le_refl _
    | succ i ih =>
      intro hi
      have := ih (by omega)
      have ht := thr_len (h := h) (c := gz h i)
      have : h.length * h.length ≤ 27 * 27 := Nat.mul_le_mul h27 h27
      rw [S]; omega
  have hl3 := hle h.length (Nat.le_refl _)
  have := fx_cnt (B := v_FnHands_L1 n) h.length (fun i => (((S i fun q => thr h (gz h q) : Nat) : Int), (i : Int), h, linesOf h)) (fun _ => True) (fun _ => some true) (fun self i hi _ hself => by
    unfold v_FnHands_L1
    dsimp only
    have hb := hle i hi
    by_cases hlt : i < h.length
    · have ht := thr_len (h := h) (c := gz h i)
      have h2 : h.length * h.length ≤ 27 * 27 := Nat.mul_le_mul h27 h27
      have hg : gl (⟨0, 0, 0, 0⟩ : Card) h i = gz h i := rfl
      have hc : isC (gz h i) = true := gl_C H.c hlt
      have e1 : w64 (((S i fun q => thr h (gz h q) : Nat) : Int) + (thr h (gz h i) : Int)) = ((S (i + 1) fun q => thr h (gz h q) : Nat) : Int) := by rw [w64_id (by omega), S]; omega
      rw [decide_eq_true (by omega), br_true, ckb_pos (inb_ok hlt), toNat_cast, hg, i_LinesThrough_eq hn (by omega), ob_some, hh, hc]
      rw [if_pos (show (true && true) = true from rfl)]
      dsimp only
      rw [Bool.not_true, br_false, e1, lt_eq, w64_succ (by omega), lt_eq]
      exact hself hlt trivial
    · have : i = h.length := by omega
      subst this
      rw [decide_eq_false (by omega), br_false, w64_id (by omega), lt_eq, hs]
      exact congrArg some (decide_eq_true (by omega))) n 0 (Nat.zero_le _) trivial (big_gt hn (by omega))
  exact this
theorem FnHands_J2_eq {n : Nat} (hn : BIG ≤ n) {h : List Card} (hl : h.length ≤ 29) : v_FnHands_J2 n (hand h, (hText h).1, h, if hand h = true then linesOf h else []) = some true := by
  unfold v_FnHands_J2
  dsimp only
  cases hh : hand h with
  | false => rfl
  | true =>
    have H := HandL.of hh
    have h27 := hand_len hh
    have hz := htx_size h
    have hll := lines_le H
    have hm : h.length * (h.length - 1) ≤ 27 * 27 := Nat.mul_le_mul h27 (by omega)
    have ht : (hText h).1 = htx h := by unfold hText; rw [if_pos hh]
    rw [if_pos rfl, ht, Bool.not_true, br_false, i_ParseHand_eq hn (by omega), ob_some, parse_text hh]
    dsimp only
    rw [Bool.not_true, br_false, v_rHand_eq' hn (by omega), decide_eq_true rfl, ob_some, ob_some, Bool.not_true, br_false]
    have e1 : w64 (6 * ((linesOf h).length : Int)) = 6 * ((linesOf h).length : Int) := w64_id (by omega)
    have e2 : w64 ((h.length : Int) - 1) = (h.length : Int) - 1 := w64_id (by omega)
    have e3 : (h.length : Int) * ((h.length : Int) - 1) = ((h.length * (h.length - 1) : Nat) : Int) := by
      rcases Nat.eq_zero_or_pos h.length with h0 | h0
      · rw [h0]; rfl
      · rw [Int.natCast_mul]
        congr 1
        omega
    rw [e1, lt_eq, e2, lt_eq, e3, w64_id (by omega), lt_eq, decide_eq_false (by omega), ob_some, br_false]
    exact FnHands_L1_eq hn hh
def LI (h : List Card) : Bool × List Ln := if hand h then (true, linesOf h) else (false, [])
def LT1 (h : List Card) (c : Card) : Int × Bool := if hand h && isC c then ((thr h c : Int), true) else (0, false)
def SU (h : List Card) : Card × Bool := if hand h then (sumC h, true) else (⟨0, 0, 0, 0⟩, false)
def DC (h : List Card) (c : Card) : Bool × List Card := if hand h && h.contains c then (true, wo h c) else (false, [])
theorem LI_1 (h : List Card) : (LI h).1 = hand h := by unfold LI; cases hand h <;> rfl
theorem LI_2 (h : List Card) : (LI h).2 = if hand h = true then linesOf h else [] := by unfold LI; cases hand h <;> rfl
theorem SU_2 (h : List Card) : (SU h).2 = hand h := by unfold SU; cases hand h <;> rfl
theorem hText_2 (h : List Card) : (hText h).2 = hand h := by unfold hText; cases hand h <;> rfl
theorem DC_1 (h : List Card) (c : Card) : (DC h c).1 = (hand h && h.contains c) := by unfold DC; cases (hand h && h.contains c) <;> rfl
theorem law_FnHands {n : Nat} (hn : BIG ≤ n) (a : List Int) (ok : (Ty.sl (.int .u8)).ok a) : v_FnHands n a = some true := by
  have hb : ByB a := ok_bytes' ok
  have hcu : CuOK 0 (a, (0, 0)) := cu0 hb
  unfold v_FnHands v_rBig
  rw [ob_some, br_dec]
  split
  · rfl
  obtain ⟨h, d1, l1⟩ := DrawLinesIn_ok hn hcu
  obtain ⟨c, g, d2, l2⟩ := DrawLinesThrough_ok hn hcu
  obtain ⟨k, v, w, d3, l3⟩ := DrawWithTrait_ok hn hcu
  obtain ⟨l, d4, l4⟩ := DrawSortCards_ok hn hcu
  obtain ⟨s, d5, l5⟩ := DrawParseHand_ok hn hcu
  have hlines : (LI h).2.length ≤ 1000000 := by
    rw [LI_2]
    split
    · rename_i hh
      have := lines_le (HandL.of hh)
      have h27 := hand_len hh
      have hm : h.length * (h.length - 1) ≤ 27 * 27 := Nat.mul_le_mul h27 (by omega)
      omega
    · exact Nat.zero_le _
  have hpc : (PC g c).2.length ≤ 1000 := by
    unfold PC
    split
    · have := ins_len (c := c) (l := g)
      show (ins c g).length ≤ _
      omega
    · exact Nat.zero_le _
  have hwl : (WT w k v).2.length ≤ 1000 := by have := WT_len w k v; omega
  have hsc := SC_len l
  have hph : (parseH s).2.length ≤ 1000 := by
    unfold parseH
    split
    · exact Nat.zero_le _
    · split
      · rename_i hc
        exact Nat.le_trans (hand_len hc.2) (by omega)
      · exact Nat.zero_le _
  have hdr : (DC g c).2.length ≤ 1000 := by
    unfold DC
    split
    · show (wo g c).length ≤ _
      have : (wo g c).length ≤ g.length := by unfold wo; exact List.length_filter_le _ _
      omega
    · exact Nat.zero_le _
  have f1 : i_LinesIn n h = some (LI h) := i_LinesIn_eq hn (by omega)
  have f2 : s_LinesIn n h = some (LI h) := s_LinesIn_eq hn (by omega)
  have f3 : i_LinesThrough n g c = some (LT1 g c) := i_LinesThrough_eq hn (by omega) c
  have f4 : s_LinesThrough n g c = some (LT1 g c) := s_LinesThrough_eq hn (by omega) c
  have f5 : i_SumCards n h = some (SU h) := i_SumCards_eq hn (by omega)
  have f6 : s_SumCards n h = some (SU h) := s_SumCards_eq hn (by omega)
  have f7 : i_DropCard n g c = some (DC g c) := i_DropCard_eq hn (by omega) c
  have f8 : s_DropCard n g c = some (DC g c) := s_DropCard_eq hn (by omega) c
  have f9 : ∀ {a b : List Ln}, a.length ≤ 1000000 → v_rThrees n a b = some (decide (a = b)) := fun hl => v_vLines_eq hn (by omega)
  have hrh : ∀ a b : List Card, a.length ≤ 1000 → v_rHand n a b = some (decide (a = b)) := fun a b hl => v_rHand_eq' hn (by omega)
  have hboth : (br (PC g c).1 (some (DC g c).1) (some false)) = some false := by
    cases hp : (PC g c).1 with
    | false => rfl
    | true =>
      obtain ⟨_, _, _, _, hno⟩ := put_drop hp
      rw [br_true, DC_1, hno, Bool.and_false]
  have hsorted : (br (SC l).1 (ob (i_IsHand n (SC l).2) fun (r38 : Bool) => some (! r38)) (some false)) = some false := by
    cases hp : (SC l).1 with
    | false => rfl
    | true => rw [br_true, i_IsHand_eq hn (by omega), SC_hand hp]; rfl
  have hJ2 : v_FnHands_J2 n (hand h, (hText h).1, h, if hand h = true then linesOf h else []) = some true := FnHands_J2_eq hn l1
  have hself : ∀ a : List Card, a.length ≤ 1000 → v_rHand n a a = some true := fun a hl => by rw [hrh a a hl, decide_eq_true rfl]
  have v0 : v_rThrees n (LI h).2 (LI h).2 = some true := by rw [f9 hlines, decide_eq_true rfl]
  rw [LI_2] at v0
  have v1 := hself _ hpc
  have v2 := hself _ hdr
  have v3 : v_rInts n (WT w k v).2 (WT w k v).2 = some true := by rw [v_rInts_eq hn (by omega), decide_eq_true rfl]
  have v4 := hself (SC l).2 (by omega)
  have v5 := hself _ hph
  have f10 : i_IsHand n h = some (hand h) := i_IsHand_eq hn (by omega)
  have f11 : i_PutCard n g c = some (PC g c) := i_PutCard_eq hn (by omega) c
  have f12 : s_PutCard n g c = some (PC g c) := s_PutCard_eq hn (by omega) c
  have f13 : i_WithTrait n w k v = some (WT w k v) := i_WithTrait_all hn (by omega) k v
  have f14 : s_WithTrait n w k v = some (WT w k v) := s_WithTrait_all hn (by omega) k v
  have f15 : i_SortCards n l = some (SC l) := i_SortCards_eq hn (by omega)
  have f16 : s_SortCards n l = some (SC l) := s_SortCards_eq hn (by omega)
  have f17 : i_HandText n h = some (hText h) := i_HandText_eq hn (by omega)
  have f18 : s_HandText n h = some (hText h) := s_HandText_eq hn (by omega)
  have f19 : i_ParseHand n s = some (parseH s) := i_ParseHand_eq hn (by omega)
  have f20 : s_ParseHand n s = some (parseH s) := s_ParseHand_eq hn (by omega)
  simp only [d1, f1, f2, f10, LI_1, v0, d2, f3, f4, f5, f6, SU_2, f11, f12, v1, f7, f8, v2, d3, f13, f14, v3, d4, f15, f16, v4, f17, f18, hText_2, d5, f19, f20, v5, hboth, hsorted, beq_self_eq_true, Bool.not_true, br_false, ob_some, decide_true, eqd_self, LI_2]
  cases hp : (PC g c).1 with
  | true =>
    obtain ⟨q1, q2, q3, q4, q5⟩ := put_drop hp
    have hdc : (DC g c).1 = false := by rw [DC_1, q5, Bool.and_false]
    rw [br_true, i_DropCard_eq hn (by omega), q2, q3, q4, if_pos (show (true && true) = true from rfl), ob_some]
    dsimp only
    rw [Bool.not_true, br_false, hrh _ _ (by omega), decide_eq_true rfl, ob_some, ob_some, Bool.not_true, br_false, hdc]
    unfold v_FnHands_J3
    dsimp only
    rw [br_false]
    exact hJ2
  | false =>
    rw [br_false]
    unfold v_FnHands_J3
    dsimp only
    cases hd : (DC g c).1 with
    | false => rw [br_false]; exact hJ2
    | true =>
      rw [DC_1, Bool.and_eq_true] at hd
      have e2 : (DC g c).2 = wo g c := by unfold DC; rw [if_pos (by rw [hd.1, hd.2]; rfl)]
      rw [e2] at hdr ⊢
      rw [br_true, i_PutCard_eq hn (by omega), drop_put hd.1 hd.2, ob_some]
      dsimp only
      rw [Bool.not_true, br_false, hrh _ _ (by omega), decide_eq_true rfl, ob_some, ob_some, Bool.not_true, br_false]
      exact hJ2
end Go.Pl

/- Plain laws: LPk3, LWs, LPk4, LFp, R58. -/
import Derived.Test.YtfoielhhflbbfaaG8
import Derived.Test.YtfoielhhflbbfaaG2
import Derived.Test.YtfoielhhflbbfaaG7
set_option linter.unusedVariables false
set_option linter.unusedSimpArgs false
namespace Go.Pl
open Go Go.Tv Go.RowKit
set_option linter.unusedVariables false
set_option linter.unusedSimpArgs false
theorem lines_bef (h : List Card) : (linesOf h).Pairwise fun a b => bef a b = true := by
  have m1 : ∀ i j x, x ∈ ln1 h i j → x.x0 = (i : Int) ∧ x.x1 = (j : Int) := fun i j x hx => by
    unfold ln1 at hx
    split at hx
    · rw [List.mem_singleton] at hx; rw [hx]; exact ⟨rfl, rfl⟩
    · cases hx
  have m2 : ∀ i x, x ∈ ln2 h i → x.x0 = (i : Int) := fun i x hx => by
    unfold ln2 at hx
    obtain ⟨j, _, hx⟩ := List.mem_flatMap.1 hx
    exact (m1 i j x hx).1
  unfold linesOf
  rw [List.pairwise_flatMap]
  refine ⟨fun i _ => ?_, List.Pairwise.imp (fun {a b} hab x hx y hy => ?_) (List.pairwise_lt_range' (step := 1))⟩
  · unfold ln2
    rw [List.pairwise_flatMap]
    refine ⟨fun j _ => ?_, List.Pairwise.imp (fun {a b} hab x hx y hy => ?_) (List.pairwise_lt_range' (step := 1))⟩
    · unfold ln1; split
      · exact List.pairwise_singleton _ _
      · exact List.Pairwise.nil
    · have h1 := m1 i a x hx; have h2 := m1 i b y hy
      unfold bef
      rw [if_pos (by omega), if_neg (by omega)]
      exact decide_eq_true (by omega)
  · have h1 := m2 a x hx; have h2 := m2 b y hy
    unfold bef
    rw [if_neg (by omega)]
    exact decide_eq_true (by omega)
structure PkL (ls L : List Ln) : Prop where
  m : ∀ x ∈ L, x ∈ ls
  b : L.Pairwise fun a b => bef a b = true
  d : L.Pairwise fun a b => meets a b = false
theorem PkL.nil (ls : List Ln) : PkL ls [] := ⟨fun x h => (by cases h), List.Pairwise.nil, List.Pairwise.nil⟩
theorem Q_pk {full : List Ln} : ∀ {ls I : List Ln}, (∀ x ∈ ls, x ∈ full) → ls.Pairwise (fun a b => bef a b = true) → PkL full I → (∀ a ∈ I, ∀ x ∈ ls, bef a x = true) → ∀ L ∈ Q ls I, PkL full L
  | [], I, _, _, _, _, L, hL => by cases hL
  | x :: ls, I, hm, hp, P, hb, L, hL => by
    obtain ⟨p1, p2⟩ := List.pairwise_cons.1 hp
    rw [Q, List.mem_append] at hL
    rcases hL with hL | hL
    · split at hL
      · rename_i hf
        unfold fr at hf
        rw [Bool.not_eq_true'] at hf
        have hf : ∀ a ∈ I, meets a x = false := fun a ha => by
          rw [← Bool.not_eq_true]
          intro hmt
          rw [List.any_eq_false] at hf
          exact hf a ha hmt
        have P' : PkL full (I ++ [x]) := ⟨fun y hy => by
            rcases List.mem_append.1 hy with hy | hy
            · exact P.m y hy
            · rw [List.mem_singleton.1 hy]; exact hm x List.mem_cons_self,
          List.pairwise_append.2 ⟨P.b, List.pairwise_singleton _ _, fun a ha c hc => by rw [List.mem_singleton.1 hc]; exact hb a ha x List.mem_cons_self⟩,
          List.pairwise_append.2 ⟨P.d, List.pairwise_singleton _ _, fun a ha c hc => by rw [List.mem_singleton.1 hc]; exact hf a ha⟩⟩
        rcases List.mem_cons.1 hL with rfl | hL
        · exact P'
        · refine Q_pk (fun y hy => hm y (List.mem_cons_of_mem _ hy)) p2 P' (fun a ha y hy => ?_) L hL
          rcases List.mem_append.1 ha with ha | ha
          · exact hb a ha y (List.mem_cons_of_mem _ hy)
          · rw [List.mem_singleton.1 ha]; exact p1 y hy
      · cases hL
    · exact Q_pk (fun y hy => hm y (List.mem_cons_of_mem _ hy)) p2 P (fun a ha y hy => hb a ha y (List.mem_cons_of_mem _ hy)) L hL
def allQ (ls : List Ln) : List (List Ln) := [] :: Q ls []
theorem allQ_pk {h : List Card} {L : List Ln} (hL : L ∈ allQ (linesOf h)) : PkL (linesOf h) L := by
  rcases List.mem_cons.1 hL with rfl | hL
  · exact PkL.nil _
  · exact Q_pk (fun x hx => hx) (lines_bef h) (PkL.nil _) (fun a ha => by cases ha) L hL
end Go.Pl
namespace Go.Pl
open Go Go.Tv Go.RowKit
set_option linter.unusedVariables false
set_option linter.unusedSimpArgs false
def W (f : Nat → Int) : Nat → Int
  | 0 => 0
  | n + 1 => W f n + f n
end Go.Pl
namespace Go.Pl
open Go Go.Tv Go.RowKit
set_option linter.unusedVariables false
set_option linter.unusedSimpArgs false
theorem lines40 {h : List Card} (H : HandL h) (h15 : h.length ≤ 15) : (linesOf h).length ≤ 40 := by
  have := open_pairs H
  have hc := c2'_le h15
  have : c2' 15 = 105 := by decide
  omega
end Go.Pl
namespace Go.Pl
open Go Go.Tv Go.RowKit
set_option linter.unusedVariables false
set_option linter.unusedSimpArgs false
theorem i_isParted_eq {n : Nat} (hn : BIG ≤ n) {h : List Card} (hl : h.length ≤ 1048576) : i_isParted n h = some (poolB h) := i_isPool_eq hn hl
def FP (h : List Card) : List Ln := (Q (linesOf h) []).foldl bsl []
theorem FP_ok (h : List Card) : FP h ∈ allQ (linesOf h) ∧ ∀ L ∈ allQ (linesOf h), L.length ≤ (FP h).length := by
  obtain ⟨h1, h2, h3⟩ := bsl_max (Q (linesOf h) []) []
  refine ⟨?_, fun L hL => ?_⟩
  · unfold FP
    rcases h1 with e | e
    · rw [e]; exact List.mem_cons_self
    · exact List.mem_cons_of_mem _ e
  · rcases List.mem_cons.1 hL with rfl | hL
    · exact Nat.zero_le _
    · exact h3 L hL
structure Pool (h : List Card) : Prop where
  hh : hand h = true
  l15 : h.length ≤ 15
theorem pool_of {h : List Card} (hp : poolB h = true) : Pool h := by
  unfold poolB at hp
  rw [Bool.and_eq_true, decide_eq_true_iff] at hp
  exact ⟨hp.1, hp.2⟩
theorem i_first_eq {n : Nat} (hn : BIG ≤ n) {h : List Card} (P : Pool h) : i_firstPicking n h = some (FP h) := by
  have H := HandL.of P.hh
  have h15 := P.l15
  have h40 := lines40 H P.l15
  unfold i_firstPicking i_pickings'll_i_firstPicking_1p_o
  rw [i_linesIn_eq hn (by omega) H.c H.nd, ob_some]
  have := pf_R hn n (linesOf h) [] [] (big_gt hn (by omega)) h40 (by simp; omega)
  rw [this]; rfl
end Go.Pl
namespace Go.Pl
open Go Go.Tv Go.RowKit
set_option linter.unusedVariables false
set_option linter.unusedSimpArgs false
theorem DrawChanceLine_ok {n : Nat} (hn : BIG ≤ n) {a : List Int} (ha : ByB a) : ∃ h, s_DrawChanceLine n a = some h ∧ h.length ≤ 29 := by
  unfold s_DrawChanceLine
  obtain ⟨c1, h, e1, hl, k1⟩ := dense_ok hn (cu0 ha) (by omega)
  rw [lt_eq, e1, ob_some]
  exact ⟨h, rfl, hl⟩
theorem DrawChanceKind_ok {n : Nat} (hn : BIG ≤ n) {a : List Int} (ha : ByB a) : ∃ k, s_DrawChanceKind n a = some k ∧ -1 ≤ k ∧ k ≤ 6 := by
  unfold s_DrawChanceKind
  obtain ⟨q, c2, e2, k2, q0, q1⟩ := pick_ok n (cu0 ha) (by omega) (a := 24) (by omega)
  rw [lt_eq, e2, ob_some]
  simp only [lt_eq]
  have hq : Int.tdiv q 7 = q / 7 := Int.tdiv_eq_ediv_of_nonneg q0
  rw [hq, w64_id (x := q / 7) (by omega), w64_id (x := 4 + q / 7) (by omega), ckb_pos (slb_ok (by omega) (by omega) (by omega)), w64_id (by omega)]
  obtain ⟨s1, s2⟩ := sub_among (l := [1, 2, 3, 4, 0, 5, (-1)]) (k := (4 + q / 7 - 0).toNat) (by simp; omega) (by omega) (-1) 6 (by decide)
  obtain ⟨r, c3, e3, k3, hr⟩ := among_ok n k2 (by omega) s1
  rw [e3, ob_some]
  have := s2 r hr
  exact ⟨_, rfl, by omega, by omega⟩
theorem DrawChanceCap_ok {n : Nat} (hn : BIG ≤ n) {a : List Int} (ha : ByB a) : ∃ k h, s_DrawChanceCap n a = some (k, h) ∧ h.length ≤ 29 := by
  unfold s_DrawChanceCap
  obtain ⟨c1, h, e1, hl, k1⟩ := pool3_ok hn (cu0 ha) (by omega)
  rw [lt_eq, e1, ob_some]
  obtain ⟨q, c2, e2, k2, q0, q1⟩ := pick_ok n k1 (by omega) (a := 24) (by omega)
  rw [e2, ob_some]
  simp only [lt_eq]
  have hq : Int.tdiv q 11 = q / 11 := Int.tdiv_eq_ediv_of_nonneg q0
  rw [hq, w64_id (x := q / 11) (by omega), w64_id (x := 6 + q / 11) (by omega), ckb_pos (slb_ok (by omega) (by omega) (by omega)), w64_id (by omega)]
  obtain ⟨s1, s2⟩ := sub_among (l := [3, 2, 4, (h.length : Int), 0, 5, (-1), 16]) (k := (6 + q / 11 - 0).toNat) (by simp; omega) (by omega) (-1) 29 (by
    intro x hx; simp at hx; omega)
  obtain ⟨r, c3, e3, k3, hr⟩ := among_ok n k2 (by omega) s1
  rw [e3, ob_some]
  exact ⟨_, _, rfl, hl⟩
theorem DrawChanceTrait_ok {n : Nat} (hn : BIG ≤ n) {a : List Int} (ha : ByB a) : ∃ t m h, s_DrawChanceTrait n a = some (t, m, h) ∧ h.length ≤ 29 := by
  unfold s_DrawChanceTrait
  obtain ⟨c1, h, e1, hl, k1⟩ := hand_ok hn (cu0 ha) (by omega)
  rw [lt_eq, e1, ob_some]
  obtain ⟨p, c2, e2, k2, p0, p1⟩ := pick_ok n k1 (by omega) (a := 4) (by omega)
  rw [e2, ob_some]
  obtain ⟨q, c3, e3, k3, q0, q1⟩ := pick_ok n k2 (by omega) (a := 24) (by omega)
  rw [e3, ob_some]
  simp only [lt_eq]
  obtain ⟨r, c4, e4, k4, r0, r1⟩ := pick_ok n k3 (by omega) (a := 24) (by omega)
  rw [e4, ob_some]
  have hq : Int.tdiv r 11 = r / 11 := Int.tdiv_eq_ediv_of_nonneg r0
  rw [hq, w64_id (x := r / 11) (by omega), w64_id (x := 3 + r / 11) (by omega), ckb_pos (slb_ok (by omega) (by omega) (by omega)), w64_id (x := 3 + r / 11 - 0) (by omega)]
  obtain ⟨s1, s2⟩ := sub_among (l := [2, 3, 1, 0, 4]) (k := (3 + r / 11 - 0).toNat) (by simp; omega) (by omega) 0 4 (by decide)
  obtain ⟨x, c5, e5, k5, hx⟩ := among_ok n k4 (by omega) s1
  rw [e5, ob_some]
  exact ⟨_, _, _, rfl, hl⟩
theorem Q_one : ∀ {ls I : List Ln} {x : Ln}, x ∈ ls → fr I x = true → (I ++ [x]) ∈ Q ls I
  | [], _, _, h, _ => by cases h
  | z :: ls, I, x, h, hf => by
    rw [Q]
    rcases List.mem_cons.1 h with rfl | h
    · rw [if_pos hf]; exact List.mem_append.2 (.inl (List.mem_cons_self ..))
    · exact List.mem_append.2 (.inr (Q_one h hf))
theorem fr_one (a b : Ln) : fr [a] b = !meets a b := by unfold fr; simp
theorem Q_two : ∀ {ls : List Ln} {x y : Ln}, x ∈ ls → y ∈ ls → x ≠ y → meets x y = false → ∃ L ∈ Q ls [], L.length = 2
  | [], _, _, h, _, _, _ => by cases h
  | z :: ls, x, y, hx, hy, hne, hm => by
    rw [Q]
    have two : ∀ w, w ∈ ls → meets z w = false → ∃ L ∈ (if fr [] z = true then ([] ++ [z]) :: Q ls ([] ++ [z]) else []) ++ Q ls [], L.length = 2 := fun w hw hzw => by
      have f0 : fr [] z = true := rfl
      rw [if_pos f0]
      have := Q_one (I := [z]) hw (by rw [fr_one, hzw]; rfl)
      exact ⟨_, List.mem_append.2 (.inl (List.mem_cons_of_mem _ this)), rfl⟩
    rcases List.mem_cons.1 hx with rfl | hx'
    · rcases List.mem_cons.1 hy with rfl | hy'
      · exact absurd rfl hne
      · exact two y hy' hm
    · rcases List.mem_cons.1 hy with rfl | hy'
      · exact two x hx' (by rw [meets_comm]; exact hm)
      · obtain ⟨L, h1, h2⟩ := Q_two hx' hy' hne hm
        exact ⟨L, List.mem_append.2 (.inr h1), h2⟩
theorem meets_self (x : Ln) : meets x x = true := by
  unfold meets
  exact List.any_eq_true.2 ⟨x.x0, List.mem_cons_self .., List.elem_eq_true_of_mem (List.mem_cons_self ..)⟩
theorem st_FP (h : List Card) : (0 < stN (linesOf h)) ↔ 1 < (FP h).length := by
  obtain ⟨f1, f2⟩ := FP_ok h
  constructor
  · intro h0
    obtain ⟨x, hx, hs⟩ := List.countP_pos_iff.1 h0
    unfold stB at hs
    obtain ⟨y, hy, hm⟩ := List.any_eq_true.1 hs
    have hm : meets x y = false := by simpa using hm
    have hne : x ≠ y := fun e => by subst e; rw [meets_self] at hm; cases hm
    obtain ⟨L, h1, h2⟩ := Q_two hx hy hne hm
    have := f2 L (List.mem_cons_of_mem _ h1)
    omega
  · intro h1
    have P := allQ_pk f1
    generalize FP h = L at *
    match L, h1, P with
    | a :: b :: L, _, P =>
      have hd := (List.pairwise_cons.1 P.d).1 b (List.mem_cons_self ..)
      refine List.countP_pos_iff.2 ⟨a, P.m a (List.mem_cons_self ..), ?_⟩
      exact List.any_eq_true.2 ⟨b, P.m b (List.mem_cons_of_mem _ (List.mem_cons_self ..)), by rw [hd]; rfl⟩
theorem FR_pos {a b : Nat} (hb : 0 < b) : decide (0 < (FR a b).x0) = decide (0 < a) := by
  obtain ⟨p, q, e, h1, h2, h3, h4⟩ := FR_cross (a := a) hb
  rw [e]
  congr 1; apply propext
  show (0 : Int) < (p : Int) ↔ 0 < a
  constructor
  · intro h; have : 0 < p := by omega
    omega
  · intro h
    have : 0 < a * q := Nat.mul_pos h h2
    rcases Nat.eq_zero_or_pos p with h0 | h0
    · rw [h0, Nat.zero_mul] at h1; omega
    · omega
theorem i_MostDisjoint_eq {n : Nat} (hn : BIG ≤ n) {h : List Card} (hl : h.length ≤ 1048576) : i_MostDisjoint n h = some ((if poolB h then ((FP h).length : Int) else 0), poolB h) := by
  unfold i_MostDisjoint
  rw [i_isParted_eq hn (by omega)]
  cases hp : poolB h with
  | false => rfl
  | true =>
    rw [i_first_eq hn (pool_of hp)]; rfl
theorem ch_J1 {n : Nat} (hn : BIG ≤ n) {h : List Card} (hl : h.length ≤ 29) : v_FnChances_J1 n ((CHB h).2, h, (CHB h).1) = some true := by
  unfold v_FnChances_J1
  simp only []
  unfold CHB
  cases hh : hand h with
  | false => rfl
  | true =>
    have h27 := hand_len hh
    have ho := outs_len (h := h) (b := true)
    obtain ⟨p, q, e, h1, h2, h3, h4⟩ := FR_cross (a := (outs h true).length) (b := 81 - h.length) (by omega)
    have hb1 : (outs h true).length * q ≤ 81 * 81 := Nat.mul_le_mul ho (by omega)
    rw [i_BlockedCards_eq hn (by omega)]
    unfold BK
    rw [hh]
    simp only [if_true, Bool.not_true, br_false, ob_some, br_true, lt_eq]
    rw [e]
    simp only []
    have e1 : (((outs h true).length : Int) * (q : Int)) = (((outs h true).length * q : Nat) : Int) := by push_cast; rfl
    have e2 : w64 (81 - (h.length : Int)) = ((81 - h.length : Nat) : Int) := by rw [w64_id (by omega)]; omega
    have e3 : ((p : Int) * ((81 - h.length : Nat) : Int)) = ((p * (81 - h.length) : Nat) : Int) := by push_cast; rfl
    rw [e1, e2, e3, w64_id (by omega), w64_id (by omega), h1, decide_eq_true rfl]
theorem chs_three {h : List Card} (hh : hand h = true) : (CHS h).2 = decide (0 < (linesOf h).length) := by
  unfold CHS
  rw [hh, Bool.true_and]
  cases decide (0 < (linesOf h).length) <;> rfl
theorem ch_J2 {n : Nat} (hn : BIG ≤ n) {h : List Card} (hl : h.length ≤ 29) : v_FnChances_J2 n ((CHB h).2, (CHS h).2, h, (CHB h).1, (CHS h).1) = some true := by
  unfold v_FnChances_J2
  simp only []
  rw [ch_J1 hn hl]
  cases hx : (hand h && decide (0 < (linesOf h).length)) with
  | false =>
    unfold CHS
    rw [hx]; rfl
  | true =>
    unfold CHS
    rw [hx]
    rw [Bool.and_eq_true, decide_eq_true_iff] at hx
    simp only [if_true, br_true]
    rw [i_MostDisjoint_eq hn (by omega), ob_some]
    simp only []
    rw [FR_pos hx.2]
    cases hp : poolB h with
    | false => rfl
    | true =>
      have : decide (0 < stN (linesOf h)) = decide ((1 : Int) < ((FP h).length : Int)) := by
        congr 1; apply propext
        rw [st_FP]; omega
      simp only [if_true, br_true, ob_some]
      rw [this]; simp
def WTl (h : List Card) (k v : Nat) : List Int := (List.range' 0 (h.length - 0)).flatMap fun i => if decide (V4.get (gl (⟨0, 0, 0, 0⟩ : Card) h i) k = (v : Int)) = true then [(i : Int)] else []
theorem WTl_len (h : List Card) (k v : Nat) : (WTl h k v).length = colN h k v := by
  unfold WTl colN
  have : ∀ (l : List Card) (f : Nat → Card) (a : Nat), (∀ i, (hi : i < l.length) → f (a + i) = l[i]) → ((List.range' a l.length).flatMap fun i => if decide (V4.get (f i) k = (v : Int)) = true then [(i : Int)] else []).length = l.countP fun c => decide (V4.get c k = (v : Int)) := by
    intro l
    induction l with
    | nil => intro f a hf; rfl
    | cons c l ih =>
      intro f a hf
      rw [List.length_cons, List.range'_succ, List.flatMap_cons, List.length_append, ih f (a + 1) (fun i hi => by have := hf (i + 1) (by simpa using hi); rw [show a + 1 + i = a + (i + 1) by omega, this]; rfl), List.countP_cons]
      have : f a = c := hf 0 (by simp)
      rw [this]
      split <;> simp <;> omega
  exact this h (fun i => gl ⟨0, 0, 0, 0⟩ h i) 0 fun i hi => by rw [Nat.zero_add]; exact gl_eq hi
theorem i_WithTrait_eq {n : Nat} (hn : BIG ≤ n) {h : List Card} (hh : hand h = true) {k v : Nat} (hk : k < 4) (hv : v < 3) : i_WithTrait n h (k : Int) (v : Int) = some (true, WTl h k v) := by
  have h27 := hand_len hh
  unfold i_WithTrait
  rw [i_IsHand_eq hn (by omega), ob_some, i_within_eq, i_within_eq, hh, decide_eq_true (show (0 : Int) ≤ k ∧ (k : Int) ≤ 3 by omega), decide_eq_true (show (0 : Int) ≤ v ∧ (v : Int) ≤ 2 by omega)]
  simp only [Bool.not_true, br_false, ob_some]
  have := fx_app (B := i_WithTrait_L1 n) h.length (fun i o => ((k : Int), (v : Int), h, (h.length : Int), (i : Int), o)) (fun i => if decide (V4.get (gl (⟨0, 0, 0, 0⟩ : Card) h i) k = (v : Int)) = true then [(i : Int)] else []) (fun o => some (true, o)) 1000 (fun self i o hi ho => by
    simp only [i_WithTrait_L1, lt_eq]
    rw [br_pos (decide_eq_true (show (i : Int) < (h.length : Int) by omega)), ckb_pos (inb_ok hi), toNat_cast, ckb_pos (inb_ok hk), toNat_cast, w64_succ (by omega)]
    cases hd : decide (V4.get (gl (⟨0, 0, 0, 0⟩ : Card) h i) k = (v : Int)) with
    | false => rw [br_false]; simp
    | true =>
      rw [hd, if_pos rfl] at ho
      simp only [List.length_singleton] at ho
      rw [br_true, ckb_pos (apok_ok (by omega) (by omega)), if_pos rfl]) (fun self o => by
    simp only [i_WithTrait_L1]
    rw [br_neg (decide_eq_false (by omega))]) n 0 [] (Nat.zero_le _) (big_gt hn (by omega)) (by
      have : ((List.range' 0 (h.length - 0)).flatMap fun i => if decide (V4.get (gl (⟨0, 0, 0, 0⟩ : Card) h i) k = (v : Int)) = true then [(i : Int)] else []).length = colN h k v := WTl_len h k v
      have := colN_len h k v
      simp only [List.length_nil] at *; omega)
  exact this
def fm (m : Nat) : Nat := if m = 1 then 1 else if m = 2 then 2 else 6
theorem fm_ok : ∀ q : Nat, q < 28 → w64 ((q : Int) * w64 ((q : Int) - 1)) = ((fm 2 * chof q 2 : Nat) : Int) ∧ w64 (w64 ((q : Int) * w64 ((q : Int) - 1)) * w64 ((q : Int) - 2)) = ((fm 3 * chof q 3 : Nat) : Int) ∧ (q : Int) = ((fm 1 * chof q 1 : Nat) : Int) := by decide +kernel
theorem chof_le3 : ∀ q : Nat, q < 28 → ∀ m : Nat, m < 4 → chof q m ≤ 2925 := by decide +kernel
theorem falling {β : Type} {q m : Nat} (hq : q ≤ 27) (hm : 1 ≤ m ∧ m ≤ 3) (f : Int → Opt β) :
    br (decide (1 < (m : Int))) (Tv.lt (w64 ((q : Int) - 1)) fun x => Tv.lt (w64 ((q : Int) * x)) fun y => br (decide (2 < (m : Int))) (Tv.lt (w64 ((q : Int) - 2)) fun z => Tv.lt (w64 (y * z)) fun w => f w) (f y)) (br (decide (2 < (m : Int))) (Tv.lt (w64 ((q : Int) - 2)) fun z => Tv.lt (w64 ((q : Int) * z)) fun w => f w) (f q)) = f ((fm m * chof q m : Nat) : Int) := by
  obtain ⟨e2, e3, e1⟩ := fm_ok q (by omega)
  rcases (show m = 1 ∨ m = 2 ∨ m = 3 by omega) with rfl | rfl | rfl
  · rw [br_neg (by decide), br_neg (by decide)]
    rw [← e1]
  · rw [br_pos (by decide), lt_eq, lt_eq, br_neg (by decide), e2]
  · rw [br_pos (by decide), lt_eq, lt_eq, br_pos (by decide), lt_eq, lt_eq, e3]
theorem ch_part {n : Nat} (go : Bool × Int × Int × Bool × Int × Int × List Card × V2 Int × List Card × V2 Int × V2 Int → Opt Bool) (there three : Bool) (t : Int) {m : Nat} (hm : 1 ≤ m ∧ m ≤ 3) (s v : Int) (h w : List Card) (bl sa st : V2 Int) {q : Nat} (l : List Int) (hq : l.length = q) (h27 : q ≤ 27)
    (hs : 0 ≤ s ∧ s ≤ 1000000) (hv : 0 ≤ v ∧ v ≤ 3) :
    br (decide (1 < (m : Int))) (Tv.lt (w64 ((l.length : Int) - 1)) fun x58 => Tv.lt (w64 ((l.length : Int) * x58)) fun x59 => v_FnChances_J3 n go (there, t, (m : Int), three, s, v, x59, h, bl, w, sa, st, l)) (v_FnChances_J3 n go (there, t, (m : Int), three, s, v, (l.length : Int), h, bl, w, sa, st, l)) =
      go (there, t, (m : Int), three, s + ((fm m * chof q m : Nat) : Int), v + 1, h, bl, w, sa, st) := by
  subst hq
  have hb := chof_le3 l.length (by omega) m (by omega)
  have hfm : fm m ≤ 6 := by unfold fm; split <;> (try split) <;> omega
  have hbb : fm m * chof l.length m ≤ 6 * 2925 := Nat.mul_le_mul hfm hb
  have := falling (q := l.length) (m := m) h27 hm fun y => Tv.lt (w64 (s + y)) fun a => Tv.lt (w64 (v + 1)) fun b => go (there, t, (m : Int), three, a, b, h, bl, w, sa, st)
  refine Eq.trans ?_ (this.trans ?_)
  · rfl
  · rw [lt_eq, lt_eq, w64_id (by omega), w64_id (by omega)]
theorem ch_L6 {n : Nat} (hn : BIG ≤ n) {h w : List Card} (hl : h.length ≤ 29) (hw : hand w = true) {t m : Nat} (ht : t ≤ 3) (hm : 1 ≤ m ∧ m ≤ 3) (hml : m ≤ w.length) :
    fx (v_FnChances_L6 n) n ((CHB h).2, (t : Int), (m : Int), (CHS h).2, 0, 0, h, (CHB h).1, w, FR (chS w t m) (chof w.length m), (CHS h).1) = some true := by
  have h27 := hand_len hw
  have l0 := colN_len w t 0
  have l1 := colN_len w t 1
  have l2 := colN_len w t 2
  have b0 := chof_le3 (colN w t 0) (by omega) m (by omega)
  have b1 := chof_le3 (colN w t 1) (by omega) m (by omega)
  have b2 := chof_le3 (colN w t 2) (by omega) m (by omega)
  have b3 := chof_le3 w.length (by omega) m (by omega)
  have hfm : fm m ≤ 6 := by unfold fm; split <;> (try split) <;> omega
  have f0 : fm m * chof (colN w t 0) m ≤ 6 * 2925 := Nat.mul_le_mul hfm b0
  have f1 : fm m * chof (colN w t 1) m ≤ 6 * 2925 := Nat.mul_le_mul hfm b1
  have f2 : fm m * chof (colN w t 2) m ≤ 6 * 2925 := Nat.mul_le_mul hfm b2
  have hpos := chof_pos w.length (by omega) m (by omega) (by omega)
  obtain ⟨p, q, e, e1, e2, e3, e4⟩ := FR_cross (a := chS w t m) hpos
  rw [e]
  obtain ⟨r, rfl⟩ : ∃ r, n = r + 4 := ⟨n - 4, by unfold BIG at hn; omega⟩
  have wt := fun (v : Nat) (hv : v < 3) => i_WithTrait_eq hn hw (k := t) (v := v) (by omega) hv
  have wl := WTl_len w t
  have w0 : i_WithTrait (r + 4) w (t : Int) 0 = some (true, WTl w t 0) := wt 0 (by omega)
  have w1 : i_WithTrait (r + 4) w (t : Int) 1 = some (true, WTl w t 1) := wt 1 (by omega)
  have w2 : i_WithTrait (r + 4) w (t : Int) 2 = some (true, WTl w t 2) := wt 2 (by omega)
  rw [fx_succ]; simp only [v_FnChances_L6]
  rw [br_pos (show decide ((0 : Int) < 3) = true by decide), w0, ob_some, Bool.not_true, br_false, ch_part (m := m) _ _ _ _ hm _ _ _ _ _ _ _ _ (wl 0) (by omega) (by omega) (by omega), fx_succ]; simp only [v_FnChances_L6]
  rw [show (0 : Int) + 1 = 1 from rfl, br_pos (show decide ((1 : Int) < 3) = true by decide), w1, ob_some, Bool.not_true, br_false, ch_part (m := m) _ _ _ _ hm _ _ _ _ _ _ _ _ (wl 1) (by omega) (by omega) (by omega), fx_succ]; simp only [v_FnChances_L6]
  rw [show (1 : Int) + 1 = 2 from rfl, br_pos (show decide ((2 : Int) < 3) = true by decide), w2, ob_some, Bool.not_true, br_false, ch_part (m := m) _ _ _ _ hm _ _ _ _ _ _ _ _ (wl 2) (by omega) (by omega) (by omega), fx_succ]; simp only [v_FnChances_L6]
  rw [show (2 : Int) + 1 = 3 from rfl, br_neg (show decide ((3 : Int) < 3) = false by decide)]
  have J2 := ch_J2 hn hl
  have := falling (q := w.length) (m := m) h27 hm fun y => v_FnChances_J4 (r + 4) ((CHB h).2, (CHS h).2, 0 + ((fm m * chof (colN w t 0) m : Nat) : Int) + ((fm m * chof (colN w t 1) m : Nat) : Int) + ((fm m * chof (colN w t 2) m : Nat) : Int), y, h, (CHB h).1, ⟨(p : Int), (q : Int)⟩, (CHS h).1)
  refine Eq.trans ?_ (this.trans ?_)
  · rfl
  unfold v_FnChances_J4
  simp only [lt_eq]
  have g1 : (0 + ((fm m * chof (colN w t 0) m : Nat) : Int) + ((fm m * chof (colN w t 1) m : Nat) : Int) + ((fm m * chof (colN w t 2) m : Nat) : Int)) = ((fm m * chS w t m : Nat) : Int) := by
    unfold chS
    rw [Nat.mul_add, Nat.mul_add]; omega
  have g2 : ((fm m * chS w t m : Nat) : Int) * (q : Int) = ((fm m * chS w t m * q : Nat) : Int) := by push_cast; rfl
  have g3 : (p : Int) * ((fm m * chof w.length m : Nat) : Int) = ((fm m * chS w t m * q : Nat) : Int) := by
    rw [Nat.mul_assoc, ← e1]
    push_cast
    rw [Int.mul_left_comm]
  have hch : chS w t m ≤ 8775 := by unfold chS; omega
  have g4 : fm m * chS w t m * q ≤ 6 * 8775 * 2925 := Nat.mul_le_mul (Nat.mul_le_mul hfm hch) (by omega)
  rw [g1, g2, g3, w64_id (by omega), decide_eq_true rfl, Bool.not_true, br_false]
  exact J2
theorem ch_J7 {n : Nat} (hn : BIG ≤ n) {h w : List Card} (hl : h.length ≤ 29) (t m : Int) : v_FnChances_J7 n ((CHB h).2, t, m, (CHT w t m).2, (CHS h).2, h, (CHB h).1, w, (CHT w t m).1, (CHS h).1) = some true := by
  unfold v_FnChances_J7
  simp only []
  rw [ch_J2 hn hl]
  unfold CHT
  cases hx : (hand w && decide (0 ≤ t ∧ t ≤ 3) && decide (1 ≤ m ∧ m ≤ 3) && decide (m ≤ (w.length : Int))) with
  | false => rfl
  | true =>
    rw [Bool.and_eq_true, Bool.and_eq_true, Bool.and_eq_true, decide_eq_true_iff, decide_eq_true_iff, decide_eq_true_iff] at hx
    obtain ⟨⟨⟨hh, ht⟩, hm⟩, hml⟩ := hx
    obtain ⟨k, rfl⟩ : ∃ k : Nat, t = k := ⟨t.toNat, by omega⟩
    obtain ⟨j, rfl⟩ : ∃ j : Nat, m = j := ⟨m.toNat, by omega⟩
    have := ch_L6 hn hl hh (t := k) (m := j) (by omega) (by omega) (by omega)
    simp only [if_true, br_true, toNat_cast]
    exact this
theorem ch_three {L C b p1 q1 p2 q2 : Nat} (hb : 0 < b) (h : L + C = b) (e1 : p1 * b = L * q1) (e2 : p2 * b = C * q2) : p1 * q2 + p2 * q1 = q1 * q2 := by
  apply Nat.eq_of_mul_eq_mul_left hb
  have a1 : b * (p1 * q2) = (p1 * b) * q2 := by rw [Nat.mul_comm p1 b, Nat.mul_assoc]
  have a2 : b * (p2 * q1) = (p2 * b) * q1 := by rw [Nat.mul_comm p2 b, Nat.mul_assoc]
  rw [Nat.mul_add, a1, a2, e1, e2, Nat.mul_assoc, Nat.mul_assoc, Nat.mul_comm q2 q1, ← Nat.add_mul, h]
theorem c3_chof : ∀ q : Nat, q < 28 → c3' q = chof q 3 := by decide +kernel
theorem ch_J8 {n : Nat} (hn : BIG ≤ n) {h u w : List Card} (hl : h.length ≤ 29) (ul : u.length ≤ 29) (t m a : Int) {r : V2 Int × Bool} (hr : r.2 = true → ¬ w64 (1 * r.1.x1) < w64 (r.1.x0 * 1) ∧ ¬ r.1.x0 < 1) :
    v_FnChances_J8 n (r.2, (CHB h).2, a, (CHC u a).2, t, m, (CHT w t m).2, (CHS h).2, h, r.1, (CHB h).1, u, (CHC u a).1, w, (CHT w t m).1, (CHS h).1) = some true := by
  unfold v_FnChances_J8
  simp only []
  rw [ch_J7 hn hl]
  have c1 : (br r.2 (Tv.lt (⟨1, 1⟩ : V2 Int) fun x34 => ob (v_vLess n x34 r.1) fun r35 => ob (br r35 (some true) (some (decide (r.1.x0 < 1)))) fun x36 => some x36) (some false)) = some false := by
    cases hr2 : r.2 with
    | false => rfl
    | true =>
      obtain ⟨b1, b2⟩ := hr hr2
      unfold v_vLess
      simp only [br_true, lt_eq, ob_some]
      rw [decide_eq_false b1, br_false, decide_eq_false b2]; rfl
  rw [c1, ob_some, br_false]
  cases hx : (poolB u && decide (0 ≤ a ∧ a ≤ (u.length : Int))) with
  | false =>
    unfold CHC
    rw [hx]; rfl
  | true =>
    unfold CHC
    rw [hx]
    rw [Bool.and_eq_true, decide_eq_true_iff] at hx
    simp only [if_true, br_true, ob_some]
    rw [br_dec]
    split
    · rename_i h3
      subst h3
      have hp := hx.1
      unfold poolB at hp
      rw [Bool.and_eq_true, decide_eq_true_iff] at hp
      have hc := chof_pos u.length (by omega) 3 (by omega) (by omega)
      have hb := chof_le3 u.length (by omega) 3 (by omega)
      have hx3 := cntX_3 (hand_nodup hp.1)
      rw [c3_chof u.length (by omega)] at hx3
      rw [i_ChanceLine_eq hn (by omega)]
      unfold CHL
      rw [hp.1, decide_eq_true (show 3 ≤ u.length by omega)]
      obtain ⟨p1, q1, e1, a1, a2, a3, a4⟩ := FR_cross (a := (linesOf u).length) hc
      obtain ⟨p2, q2, e2, b1, b2, b3, b4⟩ := FR_cross (a := cntX u 3) hc
      have key := ch_three hc (by omega) a1 b1
      simp only [Bool.and_self, if_true, ob_some, Bool.not_true, br_false, lt_eq]
      rw [show (3 : Int).toNat = 3 from rfl, e1, e2]
      simp only []
      have m1 : p1 * q2 ≤ 2925 * 2925 := Nat.mul_le_mul (by omega) (by omega)
      have m2 : p2 * q1 ≤ 2925 * 2925 := Nat.mul_le_mul (by omega) (by omega)
      have m3 : q1 * q2 ≤ 2925 * 2925 := Nat.mul_le_mul (by omega) (by omega)
      have k1 : (p1 : Int) * (q2 : Int) = ((p1 * q2 : Nat) : Int) := by push_cast; rfl
      have k2 : (p2 : Int) * (q1 : Int) = ((p2 * q1 : Nat) : Int) := by push_cast; rfl
      have k3 : (q1 : Int) * (q2 : Int) = ((q1 * q2 : Nat) : Int) := by push_cast; rfl
      rw [k1, k2, k3, w64_id (x := ((p1 * q2 : Nat) : Int)) (by omega), w64_id (x := ((p2 * q1 : Nat) : Int)) (by omega), w64_id (x := ((q1 * q2 : Nat) : Int)) (by omega), w64_id (by omega), decide_eq_true (show ((p1 * q2 : Nat) : Int) + ((p2 * q1 : Nat) : Int) = ((q1 * q2 : Nat) : Int) by omega)]
      rfl
    · rfl
theorem ch_lines {n : Nat} (hn : BIG ≤ n) {h : List Card} (hl : h.length ≤ 29) (hx : hand h = true ∧ 3 ≤ h.length) :
    (ob (i_LinesIn n h) fun r75 => ob (br (! r75.1) (some true) (Tv.lt (w64 (6 * (r75.2.length : Int))) fun x76 => Tv.lt (w64 (x76 * (FR (linesOf h).length (chof h.length 3)).x1)) fun x77 => Tv.lt (w64 ((FR (linesOf h).length (chof h.length 3)).x0 * (h.length : Int))) fun x78 => Tv.lt (w64 ((h.length : Int) - 1)) fun x79 => Tv.lt (w64 (x78 * x79)) fun x80 => Tv.lt (w64 ((h.length : Int) - 2)) fun x81 => Tv.lt (w64 (x80 * x81)) fun x82 => some (!decide (x77 = x82)))) fun x83 => some x83) = some false := by
  have h27 := hand_len hx.1
  have hc := chof_pos h.length (by omega) 3 (by omega) (by omega)
  have hb := chof_le3 h.length (by omega) 3 (by omega)
  have h6 := chof3_six h.length (by omega)
  have hL := lines_len27 hx.1
  rw [i_LinesIn_eq hn (by omega), hx.1]
  obtain ⟨p, q, e, a1, a2, a3, a4⟩ := FR_cross (a := (linesOf h).length) hc
  rw [e]
  simp only [if_true, ob_some, Bool.not_true, br_false, lt_eq]
  have n1 : (linesOf h).length * q ≤ 729 * 2925 := Nat.mul_le_mul (by omega) (by omega)
  have n2 : p * h.length ≤ 729 * 27 := Nat.mul_le_mul (by omega) (by omega)
  have n3 : p * h.length * (h.length - 1) ≤ 729 * 27 * 27 := Nat.mul_le_mul n2 (by omega)
  have n4 : p * h.length * (h.length - 1) * (h.length - 2) ≤ 729 * 27 * 27 * 27 := Nat.mul_le_mul n3 (by omega)
  have k0 : (6 : Int) * ((linesOf h).length : Int) = ((6 * (linesOf h).length : Nat) : Int) := by push_cast; rfl
  have k1 : ((6 * (linesOf h).length : Nat) : Int) * (q : Int) = ((6 * (linesOf h).length * q : Nat) : Int) := by push_cast; rfl
  have k2 : (p : Int) * (h.length : Int) = ((p * h.length : Nat) : Int) := by push_cast; rfl
  have k3 : (h.length : Int) - 1 = ((h.length - 1 : Nat) : Int) := by omega
  have k4 : (h.length : Int) - 2 = ((h.length - 2 : Nat) : Int) := by omega
  have k5 : ((p * h.length : Nat) : Int) * ((h.length - 1 : Nat) : Int) = ((p * h.length * (h.length - 1) : Nat) : Int) := by push_cast; rfl
  have k6 : ((p * h.length * (h.length - 1) : Nat) : Int) * ((h.length - 2 : Nat) : Int) = ((p * h.length * (h.length - 1) * (h.length - 2) : Nat) : Int) := by push_cast; rfl
  have g : 6 * (linesOf h).length * q = p * h.length * (h.length - 1) * (h.length - 2) := by
    rw [Nat.mul_assoc, ← a1, Nat.mul_assoc, Nat.mul_assoc, Nat.mul_left_comm, h6, Nat.mul_assoc]
  rw [k0, k3, k4, k2, w64_id (x := ((6 * (linesOf h).length : Nat) : Int)) (by omega), k1, w64_id (x := ((p * h.length : Nat) : Int)) (by omega), w64_id (x := ((h.length - 1 : Nat) : Int)) (by omega), k5, w64_id (x := ((p * h.length * (h.length - 1) : Nat) : Int)) (by omega), w64_id (x := ((h.length - 2 : Nat) : Int)) (by omega), k6, g, decide_eq_true rfl]
  rfl
theorem law_FnChances {n : Nat} (hn : BIG ≤ n) (a : List Int) (ok : (Ty.sl (.int .u8)).ok a) : v_FnChances n a = some true := by
  have hb : ByB a := ok_bytes' ok
  unfold v_FnChances v_vBig
  rw [ob_some, br_dec]
  split
  · rfl
  rename_i hbig
  obtain ⟨h, e1, hl⟩ := DrawChanceLine_ok hn hb
  obtain ⟨b, e2, hb', bl⟩ := vCut_ok (n := n) hb (by omega) (k := 1) (by omega)
  obtain ⟨k, e3, k0, k1⟩ := DrawChanceKind_ok hn hb'
  obtain ⟨b2, e4, hb2, bl2⟩ := vCut_ok (n := n) hb (by omega) (k := 2) (by omega)
  obtain ⟨c, u, e5, ul⟩ := DrawChanceCap_ok hn hb2
  obtain ⟨t, m, w, e6, wl⟩ := DrawChanceTrait_ok hn hb'
  obtain ⟨r, q1, q2, hr⟩ := ChanceKind_ok hn ⟨k0, k1⟩
  have e2 : v_vCut n a 1 = some b := e2
  have e4 : v_vCut n a 2 = some b2 := e4
  rw [e1, ob_some, i_ChanceLine_eq hn (by omega), ob_some, s_ChanceLine_eq hn (by omega), ob_some, e2, ob_some, e3, ob_some, q1, ob_some, q2, ob_some, i_ChanceBlocked_eq hn (by omega), ob_some, s_ChanceBlocked_eq hn (by omega), ob_some, e4, ob_some, e5, ob_some]
  simp only []
  rw [i_ChanceCap_eq hn (by omega), ob_some, s_ChanceCap_eq hn (by omega), ob_some, ob_some, e6, ob_some]
  simp only []
  rw [i_ChanceTrait_eq hn (by omega), ob_some, s_ChanceTrait_eq hn (by omega), ob_some, i_ChanceStays_eq hn (by omega), ob_some, s_ChanceStays_eq hn (by omega), ob_some]
  have J8 := ch_J8 hn (w := w) hl ul t m c hr
  simp only [eqd, decide_true, Bool.not_true, beq_self_eq_true, br_false, ob_some]
  rw [J8]
  cases hx : (hand h && decide (3 ≤ h.length)) with
  | false =>
    unfold CHL
    rw [hx]; rfl
  | true =>
    have hx' := hx
    rw [Bool.and_eq_true, decide_eq_true_iff] at hx'
    have h27 := hand_len hx'.1
    have hc := chof_pos h.length (by omega) 3 (by omega) (by omega)
    have hlin := ch_lines hn hl hx'
    unfold CHL
    rw [hx]
    simp only [if_true, br_true]
    have hlin' : (ob (i_LinesIn n h) fun r75 => ob (br (! r75.1) (some true) (Tv.lt (w64 (6 * (r75.2.length : Int))) fun x76 => Tv.lt (w64 (x76 * (FR (linesOf h).length (chof h.length 3)).x1)) fun x77 => Tv.lt (w64 ((FR (linesOf h).length (chof h.length 3)).x0 * (h.length : Int))) fun x78 => Tv.lt (w64 ((h.length : Int) - 1)) fun x79 => Tv.lt (w64 (x78 * x79)) fun x80 => Tv.lt (w64 ((h.length : Int) - 2)) fun x81 => Tv.lt (w64 (x80 * x81)) fun x82 => some (!decide (x77 = x82)))) fun x83 => ob (br x83 (some true) (some (!((decide (0 < (FR (linesOf h).length (chof h.length 3)).x0)) == (CHS h).2)))) fun x84 => br x84 (some false) (some true)) = some true := by
      have hs : ((decide (0 < (FR (linesOf h).length (chof h.length 3)).x0)) == (CHS h).2) = true := by
        rw [FR_pos hc, chs_three hx'.1]; simp
      rw [hs]
      cases hq : i_LinesIn n h with
      | none => rw [hq] at hlin; cases hlin
      | some v =>
        rw [hq, ob_some] at hlin
        rw [ob_some]
        generalize hz : (br (! v.1) (some true) (Tv.lt (w64 (6 * (v.2.length : Int))) fun x76 => Tv.lt (w64 (x76 * (FR (linesOf h).length (chof h.length 3)).x1)) fun x77 => Tv.lt (w64 ((FR (linesOf h).length (chof h.length 3)).x0 * (h.length : Int))) fun x78 => Tv.lt (w64 ((h.length : Int) - 1)) fun x79 => Tv.lt (w64 (x78 * x79)) fun x80 => Tv.lt (w64 ((h.length : Int) - 2)) fun x81 => Tv.lt (w64 (x80 * x81)) fun x82 => some (!decide (x77 = x82)))) = z at hlin ⊢
        cases z with
        | none => cases hlin
        | some z =>
          rw [ob_some] at hlin
          have := Option.some.inj hlin
          subst this
          rfl
    exact hlin'
end Go.Pl

/- Plain laws: LCd, R35, R45, LHd. -/
import Derived.Test.YtkhfihbaopbblaaGreatDoorG10
import Derived.Test.YtkhfihbaopbblaaGreatDoorG3
import Derived.Test.YtkhfihbaopbblaaGreatDoorG2
import Derived.Test.YtkhfihbaopbblaaGreatDoorG4
import Derived.Test.YtkhfihbaopbblaaGreatDoorPL
import Derived.Test.YtkhfihbaopbblaaGreatDoorG8
import Derived.Test.YtkhfihbaopbblaaGreatDoorG9
set_option linter.unusedVariables false
set_option linter.unusedSimpArgs false
namespace Go.Pl
open Go Go.Tv Go.RowKit
set_option linter.unusedVariables false
end Go.Pl
namespace Go.Pl
open Go Go.Tv Go.RowKit
set_option linter.unusedVariables false
end Go.Pl
namespace Go.Pl
open Go Go.Tv Go.RowKit
set_option linter.unusedVariables false
set_option linter.unusedSimpArgs false
theorem v_rHand_eq' {n : Nat} (hn : BIG ≤ n) {a b : List Card} (hl : a.length ≤ 9223372036854775806) : v_rHand n a b = some (decide (a = b)) := by
  unfold v_rHand
  by_cases hlen : a.length = b.length
  · rw [decide_eq_true (show (a.length : Int) = (b.length : Int) by omega), Bool.not_true, br_false]
    have := fx_cnt (B := v_rHand_L1 n) a.length (fun i => (a, b, (i : Int))) (fun _ => True) (fun i => some (decide (a.drop i = b.drop i))) (fun self i hi _ ih => by
      simp only [v_rHand_L1, lt_eq]
      by_cases h : i < a.length
      · rw [br_pos (decide_eq_true (show (i : Int) < (a.length : Int) by omega)), ckb_pos (inb_ok h), ckb_pos (inb_ok (by omega)), toNat_cast, gl_eq h, gl_eq (show i < b.length by omega), dec_drop h (by omega), w64_succ (by omega), ih h trivial]
        unfold eqd
        cases decide (a[i] = b[i]) <;> rfl
      · rw [br_neg (decide_eq_false (by omega)), List.drop_eq_nil_of_le (by omega), List.drop_eq_nil_of_le (by omega)]; simp) n 0 (Nat.zero_le _) trivial (big_gt hn (by omega))
    simpa using this
  · rw [decide_eq_false (show ¬ (a.length : Int) = (b.length : Int) by omega)]
    have : a ≠ b := fun h => hlen (by rw [h])
    simp [this]
theorem v_rInts_eq {n : Nat} (hn : BIG ≤ n) {a b : List Int} (hl : a.length ≤ 9223372036854775806) : v_rInts n a b = some (decide (a = b)) := by
  rw [← v_vInts_eq hn hl]; rfl
end Go.Pl
namespace Go.Pl
open Go Go.Tv Go.RowKit
theorem s_SumCards_eq {n : Nat} (hn : BIG ≤ n) {h : List Card} (hl : h.length ≤ 1048576) : s_SumCards n h = some (if hand h then (sumC h, true) else (⟨0, 0, 0, 0⟩, false)) := by
  unfold s_SumCards
  rw [s_l2Hand_eq hn (by omega), ob_some]
  cases hh : hand h with
  | false => rfl
  | true =>
    obtain ⟨h1, _, h3⟩ := hand_iff.1 hh
    rw [Bool.not_true, br_false, s_l2Sum_eq hn h1 (by omega)]; rfl
theorem s_LinesIn_eq {n : Nat} (hn : BIG ≤ n) {h : List Card} (hl : h.length ≤ 1048576) : s_LinesIn n h = some (if hand h then (true, linesOf h) else (false, [])) := by
  unfold s_LinesIn
  rw [s_l2Hand_eq hn (by omega), ob_some]
  cases hh : hand h with
  | false => rfl
  | true =>
    obtain ⟨h1, _, h3⟩ := hand_iff.1 hh
    rw [Bool.not_true, br_false, s_l2Lines_eq hn (by omega) h1]; rfl
theorem s_LinesThrough_eq {n : Nat} (hn : BIG ≤ n) {h : List Card} (hl : h.length ≤ 1048576) (c : Card) : s_LinesThrough n h c = some (if hand h && isC c then ((thr h c : Int), true) else (0, false)) := by
  unfold s_LinesThrough
  rw [s_l2Hand_eq hn (by omega), s_l2Card_eq hn]
  simp only [ob_some, br_some]
  cases hh : hand h with
  | false => rfl
  | true =>
    cases hc : isC c with
    | false => rfl
    | true =>
      show br false _ _ = _
      rw [br_false, s_l2Through_eq hn (HandL.of hh), ob_some]; rfl
theorem s_DropCard_eq {n : Nat} (hn : BIG ≤ n) {h : List Card} (hl : h.length ≤ 1000000) (c : Card) : s_DropCard n h c = some (if hand h && h.contains c then (true, wo h c) else (false, [])) := by
  unfold s_DropCard
  rw [s_l2Hand_eq hn (by omega), s_l2Has_eq hn (by omega)]
  simp only [ob_some, br_some]
  cases hh : hand h with
  | false => rfl
  | true =>
    cases hc : h.contains c with
    | false => rfl
    | true =>
      obtain ⟨h1, h2, h3⟩ := hand_iff.1 hh
      obtain ⟨k, hk⟩ := List.getElem?_of_mem (List.contains_iff_mem.1 hc)
      have hlt := (List.getElem?_eq_some_iff.1 hk).1
      have hp := place_of (hand_nodup hh) hk
      have hg : gz h k = c := by
        have := (List.getElem?_eq_some_iff.1 hk).2
        show gl _ h k = c
        rw [gl_eq hlt]; exact this
      show br false _ _ = _
      rw [br_false, s_l2Place_eq hn (by omega), ob_some, hp, s_l2Drop_eq' (by omega) hlt, ob_some, ← wo_drop h1 h2 hlt, hg]; rfl
def WT (h : List Card) (k v : Int) : Bool × List Int := if hand h = true ∧ (0 ≤ k ∧ k ≤ 3) ∧ (0 ≤ v ∧ v ≤ 2) then (true, (List.range' 0 (h.length - 0)).flatMap fun i => if decide (V4.get (gl (⟨0, 0, 0, 0⟩ : Card) h i) k.toNat = v) = true then [(i : Int)] else []) else (false, [])
theorem wt_len (h : List Card) (k v : Int) : ∀ (a m : Nat), ((List.range' a m).flatMap fun i => if decide (V4.get (gl (⟨0, 0, 0, 0⟩ : Card) h i) k.toNat = v) = true then [(i : Int)] else []).length ≤ m
  | _, 0 => Nat.le_refl _
  | a, m + 1 => by
    have := wt_len h k v (a + 1) m
    rw [List.range'_succ, List.flatMap_cons, List.length_append]
    have h1 : (if decide (V4.get (gl (⟨0, 0, 0, 0⟩ : Card) h a) k.toNat = v) = true then [(a : Int)] else []).length ≤ 1 := by
      split <;> simp
    omega
theorem i_WithTrait_all {n : Nat} (hn : BIG ≤ n) {h : List Card} (hl : h.length ≤ 1048576) (k v : Int) : i_WithTrait n h k v = some (WT h k v) := by
  unfold i_WithTrait WT
  rw [i_IsHand_eq hn (by omega), ob_some, i_within_eq, i_within_eq]
  cases hh : hand h with
  | false => rw [if_neg (by simp)]; rfl
  | true =>
    have h27 := hand_len hh
    by_cases hk : 0 ≤ k ∧ k ≤ 3
    case neg => rw [decide_eq_false hk, if_neg (fun h => hk h.2.1)]; rfl
    by_cases hv : 0 ≤ v ∧ v ≤ 2
    case neg => rw [decide_eq_true hk, decide_eq_false hv, if_neg (fun h => hv h.2.2)]; rfl
    rw [decide_eq_true hk, decide_eq_true hv, if_pos ⟨rfl, hk, hv⟩]
    simp only [Bool.not_true, br_false, ob_some]
    have := fx_app (B := i_WithTrait_L1 n) h.length (fun i o => (k, v, h, (h.length : Int), (i : Int), o)) (fun i => if decide (V4.get (gl (⟨0, 0, 0, 0⟩ : Card) h i) k.toNat = v) = true then [(i : Int)] else []) (fun o => some (true, o)) 1000 (fun self i o hi ho => by
      simp only [i_WithTrait_L1, lt_eq]
      rw [br_pos (decide_eq_true (show (i : Int) < (h.length : Int) by omega)), ckb_pos (inb_ok hi), toNat_cast, ckb_pos (inb_pos hk.1 (by omega)), w64_succ (by omega)]
      cases hd : decide (V4.get (gl (⟨0, 0, 0, 0⟩ : Card) h i) k.toNat = v) with
      | false => rw [br_false]; simp
      | true =>
        rw [hd, if_pos rfl] at ho
        simp only [List.length_singleton] at ho
        rw [br_true, ckb_pos (apok_ok (by omega) (by omega)), if_pos rfl]) (fun self o => by
      simp only [i_WithTrait_L1]
      rw [br_neg (decide_eq_false (by omega))]) n 0 [] (Nat.zero_le _) (big_gt hn (by omega)) (by
        have := wt_len h k v 0 (h.length - 0)
        simp only [List.length_nil]; omega)
    exact this
theorem s_WithTrait_all {n : Nat} (hn : BIG ≤ n) {h : List Card} (hl : h.length ≤ 1048576) (k v : Int) : s_WithTrait n h k v = some (WT h k v) := by
  unfold s_WithTrait WT
  rw [s_l2Hand_eq hn (by omega), ob_some, s_l1In_eq, s_l1In_eq]
  cases hh : hand h with
  | false => rw [if_neg (by simp)]; rfl
  | true =>
    have h27 := hand_len hh
    by_cases hk : 0 ≤ k ∧ k ≤ 3
    case neg => rw [decide_eq_false hk, if_neg (fun h => hk h.2.1)]; rfl
    by_cases hv : 0 ≤ v ∧ v ≤ 2
    case neg => rw [decide_eq_true hk, decide_eq_false hv, if_neg (fun h => hv h.2.2)]; rfl
    rw [decide_eq_true hk, decide_eq_true hv, if_pos ⟨rfl, hk, hv⟩]
    simp only [Bool.not_true, br_false, ob_some]
    have := fx_app (B := s_WithTrait_L1 n) h.length (fun i o => (h, k, v, (i : Int), o)) (fun i => if decide (V4.get (gl (⟨0, 0, 0, 0⟩ : Card) h i) k.toNat = v) = true then [(i : Int)] else []) (fun o => some (true, o)) 1000 (fun self i o hi ho => by
      simp only [s_WithTrait_L1, lt_eq]
      rw [br_pos (decide_eq_true (show (i : Int) < (h.length : Int) by omega)), ckb_pos (inb_ok hi), toNat_cast, ckb_pos (inb_pos hk.1 (by omega)), w64_succ (by omega)]
      cases hd : decide (V4.get (gl (⟨0, 0, 0, 0⟩ : Card) h i) k.toNat = v) with
      | false => rw [br_false]; simp
      | true =>
        rw [hd, if_pos rfl] at ho
        simp only [List.length_singleton] at ho
        rw [br_true, ckb_pos (apok_ok (by omega) (by omega)), if_pos rfl]) (fun self o => by
      simp only [s_WithTrait_L1]
      rw [br_neg (decide_eq_false (by omega))]) n 0 [] (Nat.zero_le _) (big_gt hn (by omega)) (by
        have := wt_len h k v 0 (h.length - 0)
        simp only [List.length_nil]; omega)
    exact this
theorem WT_len (h : List Card) (k v : Int) : (WT h k v).2.length ≤ h.length := by
  unfold WT
  split
  · exact Nat.le_trans (wt_len h k v 0 (h.length - 0)) (by omega)
  · exact Nat.zero_le _
def SC (l : List Card) : Bool × List Card := if l.all isC = true ∧ (sortd l).length ≤ 27 then (true, sortd l) else (false, [])
theorem all_C {l : List Card} (h : l.all isC = true) : AllC l := fun c hc => List.all_eq_true.1 h c hc
theorem i_SortCards_eq {n : Nat} (hn : BIG ≤ n) {l : List Card} (hl : l.length ≤ 200) : i_SortCards n l = some (SC l) := by
  unfold i_SortCards SC
  rw [i_areCards_eq hn (by omega), ob_some]
  cases ha : l.all isC with
  | false => rw [if_neg (by simp)]; rfl
  | true =>
    rw [Bool.not_true, br_false, i_sorted_eq hn (all_C ha) hl, ob_some]
    by_cases h27 : (27 : Int) < ((sortd l).length : Int)
    · rw [decide_eq_true h27, br_true, if_neg (fun h => by omega)]
    · rw [decide_eq_false h27, br_false, if_pos ⟨rfl, by omega⟩]
theorem s_SortCards_eq {n : Nat} (hn : BIG ≤ n) {l : List Card} (hl : l.length ≤ 200) : s_SortCards n l = some (SC l) := by
  unfold s_SortCards
  have := fx_find (B := s_SortCards_L1 n) l (fun i => (l, (i : Int))) (fun c => !isC c) (fun _ => some (false, [])) (ob (s_l2Sorted n l) fun (r6 : List Card) => br (decide (27 < (r6.length : Int))) (some (false, ([] : List Card))) (some (true, r6))) (fun self i hi => by
    unfold s_SortCards_L1
    dsimp only
    have hg : gl (⟨0, 0, 0, 0⟩ : Card) l i = l[i] := gl_eq hi
    rw [decide_eq_true (by omega), br_true, ckb_pos (inb_ok hi), toNat_cast, hg, s_l2Card_eq hn, ob_some, w64_succ (by omega), lt_eq]
    cases isC l[i] <;> rfl) (fun self => by
    unfold s_SortCards_L1
    dsimp only
    rw [decide_eq_false (by omega), br_false]) n (big_gt hn (by omega))
  have e0 : ((0 : Nat) : Int) = 0 := rfl
  rw [e0] at this
  rw [this]
  unfold SC
  cases hf : l.findIdx? (fun c => !isC c) with
  | some i =>
    have : l.all isC = false := by
      cases ha : l.all isC with
      | false => rfl
      | true =>
        have := List.findIdx?_eq_none_iff.2 (fun c hc => by rw [List.all_eq_true.1 ha c hc]; rfl : ∀ c ∈ l, (!isC c) = false)
        rw [this] at hf; cases hf
    rw [if_neg (fun h => by rw [this] at h; cases h.1)]
  | none =>
    have ha : l.all isC = true := List.all_eq_true.2 fun c hc => by
      have := List.findIdx?_eq_none_iff.1 hf c hc
      simpa using this
    rw [s_l2Sorted_eq hn (all_C ha) (by omega), ob_some]
    by_cases h27 : (27 : Int) < ((sortd l).length : Int)
    · rw [decide_eq_true h27, br_true, if_neg (fun h => by omega)]
    · rw [decide_eq_false h27, br_false, if_pos ⟨ha, by omega⟩]
theorem SC_hand {l : List Card} (h : (SC l).1 = true) : hand (SC l).2 = true := by
  unfold SC at h ⊢
  split at h
  · rename_i hc
    rw [if_pos hc]
    obtain ⟨s1, s2, _, _⟩ := sortd_ok (all_C hc.1)
    exact hand_iff.2 ⟨s1, s2, hc.2⟩
  · cases h
theorem SC_len (l : List Card) : (SC l).2.length ≤ 27 := by
  unfold SC
  split
  · rename_i hc; exact hc.2
  · exact Nat.zero_le _
theorem put_drop {g : List Card} {c : Card} (h : (PC g c).1 = true) : hand g = true ∧ hand (PC g c).2 = true ∧ (PC g c).2.contains c = true ∧ wo (PC g c).2 c = g ∧ g.contains c = false := by
  unfold PC at h ⊢
  split at h
  case isFalse => cases h
  case isTrue hc =>
    rw [if_pos hc]
    simp only [Bool.and_eq_true, decide_eq_true_eq, Bool.not_eq_true'] at hc
    obtain ⟨⟨⟨hh, hcc⟩, hlt⟩, hno⟩ := hc
    obtain ⟨h1, h2, h3⟩ := hand_iff.1 hh
    have hni : c ∉ g := fun hm => by rw [List.contains_iff_mem.2 hm] at hno; cases hno
    have i1 := ins_allC hcc h1
    have i2 := ins_ss hcc h1 h2
    have i3 := ins_len (c := c) (l := g)
    refine ⟨hh, hand_iff.2 ⟨i1, i2, by show (ins c g).length ≤ 27; omega⟩, List.contains_iff_mem.2 (ins_mem.2 (.inl rfl)), ?_, hno⟩
    refine ss_uniq (i2.sublist List.filter_sublist) h2 fun d => ?_
    unfold wo
    rw [List.mem_filter, ins_mem]
    simp only [Bool.not_eq_true', decide_eq_false_iff_not]
    constructor
    · rintro ⟨h | h, hne⟩
      · exact absurd h hne
      · exact h
    · intro hd
      exact ⟨.inr hd, fun e => hni (e ▸ hd)⟩
theorem drop_put {g : List Card} {c : Card} (hh : hand g = true) (hc : g.contains c = true) : PC (wo g c) c = (true, g) := by
  obtain ⟨h1, h2, h3⟩ := hand_iff.1 hh
  have hm := List.contains_iff_mem.1 hc
  have hcc := h1 c hm
  have hsub : (wo g c).Sublist g := List.filter_sublist
  have hw : hand (wo g c) = true := hand_iff.2 ⟨fun d hd => h1 d (hsub.subset hd), h2.sublist hsub, Nat.le_trans hsub.length_le h3⟩
  have hno : c ∉ wo g c := by unfold wo; rw [List.mem_filter]; simp
  have hlt : (wo g c).length < g.length := by
    refine Nat.lt_of_le_of_ne hsub.length_le fun e => hno ?_
    rw [hsub.eq_of_length e]; exact hm
  unfold PC
  have hcon : (wo g c).contains c = false := by
    cases h : (wo g c).contains c with
    | false => rfl
    | true => exact absurd (List.contains_iff_mem.1 h) hno
  rw [if_pos (by rw [hw, hcc, hcon, decide_eq_true (by omega : (wo g c).length < 27)]; rfl)]
  congr 1
  refine ss_uniq (ins_ss hcc (fun d hd => h1 d (hsub.subset hd)) (h2.sublist hsub)) h2 fun d => ?_
  rw [ins_mem]
  unfold wo
  rw [List.mem_filter]
  simp only [Bool.not_eq_true', decide_eq_false_iff_not]
  constructor
  · rintro (rfl | h)
    · exact hm
    · exact h.1
  · intro hd
    rcases Classical.em (d = c) with e | e
    · exact .inl e
    · exact .inr ⟨hd, e⟩
theorem sum_thr {h : List Card} (H : HandL h) : (S h.length fun q => thr h (gz h q)) = 3 * (linesOf h).length := by
  rw [← shut_pairs H]
  have e : ∀ q, q < h.length → thr h (gz h q) = T h.length fun j i => b2 (lineB (gz h i) (gz h j) (gz h q)) := fun q _ => thr_T h _
  rw [S_congr e, ← T_swap (fun q j i => b2 (lineB (gz h i) (gz h j) (gz h q)))]
  refine T_congr fun j i hij hj => ?_
  have hne : gz h i ≠ gz h j := H.ne (by omega) hj (by omega)
  have e2 : ∀ q, q < h.length → b2 (lineB (gz h i) (gz h j) (gz h q)) = b2 (decide (third (gz h i) (gz h j) = gz h q)) := fun q _ => by
    unfold lineB
    rw [decide_eq_false hne, Bool.not_false, Bool.true_and]
  rw [S_congr e2, th_comm (gz h j) (gz h i)]
  generalize third (gz h i) (gz h j) = t
  cases hc : h.contains t with
  | false =>
    rw [S_congr (g := fun _ => 0) fun q hq => ?_, S_zero]
    · rfl
    · have : t ≠ gz h q := fun e => by
        have : t ∈ h := by rw [e]; exact gl_mem hq
        rw [List.contains_iff_mem.2 this] at hc; cases hc
      rw [decide_eq_false this]; rfl
  | true =>
    obtain ⟨p, hp⟩ := List.getElem?_of_mem (List.contains_iff_mem.1 hc)
    have hlt := (List.getElem?_eq_some_iff.1 hp).1
    have hg : gz h p = t := by
      show gl _ h p = t
      rw [gl_eq hlt]; exact (List.getElem?_eq_some_iff.1 hp).2
    have e3 : ∀ q, q < h.length → b2 (decide (t = gz h q)) = b2 (decide (p = q) && true) := fun q hq => by
      congr 1
      rw [Bool.and_true]
      congr 1
      apply propext
      constructor
      · intro e
        refine Decidable.byContradiction fun hpq => ?_
        exact H.ne hlt hq hpq (hg.trans e)
      · rintro rfl; exact hg.symm
    rw [S_congr e3, S_ind hlt fun _ => true]
theorem lines_le {h : List Card} (H : HandL h) : 6 * (linesOf h).length ≤ h.length * (h.length - 1) := by
  have := open_pairs H
  have h2 : 2 * c2' h.length ≤ h.length * (h.length - 1) := by rw [c2'_two]; exact Nat.le_refl _
  omega
end Go.Pl

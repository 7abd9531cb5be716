/- Plain laws: LDo2. -/
import Derived.Test.YtbkbkaonjhlplaaGreatLLDo
set_option linter.unusedVariables false
set_option linter.unusedSimpArgs false
namespace Go.Pl
open Go Go.Tv Go.RowKit
set_option linter.unusedVariables false
set_option linter.unusedSimpArgs false

/-! lines of a hand, put, dropped -/
theorem contains3_eq {n : Nat} (hn : BIG ≤ n) {L : List (V3 Int)} (hl : L.length ≤ 1000000) (x : V3 Int) : slices_Contains_SA3_A3_ n L x = some (L.contains x) := by
  unfold slices_Contains_SA3_A3_ slices_Index_SA3_A3_
  have := fx_find (B := slices_Index_SA3_A3__L1 n) L (fun i => (L, (L.length : Int), (i : Int), x)) (fun y => decide (y = x)) (fun i => some (i : Int)) (some (-1)) (fun self i hi => ?_) (fun self => ?_) n (big_gt hn (by omega))
  · have e0 : fx (slices_Index_SA3_A3__L1 n) n (L, (L.length : Int), 0, x) = _ := this
    rw [e0]
    have hh : (L.findIdx? fun y => decide (y = x)).isSome = L.contains x := by
      rw [List.findIdx?_isSome, Bool.eq_iff_iff, List.any_eq_true, List.contains_iff_mem]
      constructor
      · rintro ⟨y, h1, h2⟩; rw [← of_decide_eq_true h2]; exact h1
      · intro h; exact ⟨x, h, decide_eq_true rfl⟩
    rw [← hh]
    cases L.findIdx? fun y => decide (y = x) with
    | none => rfl
    | some i => rw [ob_some, decide_eq_true (by omega)]; rfl
  · simp only [slices_Index_SA3_A3__L1, lt_eq]
    rw [br_pos (decide_eq_true (show (i : Int) < (L.length : Int) by omega)), ckb_pos (inb_ok hi), toNat_cast, gl_eq hi, w64_succ (by omega), eqd]
    by_cases hc : L[i] = x
    · rw [if_pos (by simp [hc])]; simp [hc]
    · rw [if_neg (by simp [hc])]
      rw [show decide (x = L[i]) = false from decide_eq_false (fun e => hc e.symm), br_false]
  · simp only [slices_Index_SA3_A3__L1]
    rw [br_neg (decide_eq_false (by omega))]
theorem s_l7Has_eq {n : Nat} (hn : BIG ≤ n) {L : List (V3 Int)} (hl : L.length ≤ 1000000) (x : V3 Int) : s_l7Has n L x = some (L.contains x) := by
  unfold s_l7Has
  have := fx_find (B := s_l7Has_L1 n) L (fun i => (L, (i : Int), x)) (fun y => decide (y = x)) (fun i => some true) (some false) (fun self i hi => ?_) (fun self => ?_) n (big_gt hn (by omega))
  · refine Eq.trans this ?_
    have hh : (L.findIdx? fun y => decide (y = x)).isSome = L.contains x := by
      rw [List.findIdx?_isSome, Bool.eq_iff_iff, List.any_eq_true, List.contains_iff_mem]
      constructor
      · rintro ⟨y, h1, h2⟩; rw [← of_decide_eq_true h2]; exact h1
      · intro h; exact ⟨x, h, decide_eq_true rfl⟩
    rw [← hh]
    cases L.findIdx? fun y => decide (y = x) <;> rfl
  · simp only [s_l7Has_L1, lt_eq]
    rw [br_pos (decide_eq_true (show (i : Int) < (L.length : Int) by omega)), ckb_pos (inb_ok hi), toNat_cast, gl_eq hi, w64_succ (by omega), eqd]
    by_cases hc : L[i] = x
    · rw [if_pos (by simp [hc])]; simp [hc]
    · rw [if_neg (by simp [hc]), show decide (L[i] = x) = false from decide_eq_false hc, br_false]
  · simp only [s_l7Has_L1]
    rw [br_neg (decide_eq_false (by omega))]
def PC (h : List Card) (c : Card) : Bool × List Card := if hand h && isC c && decide (h.length < 27) && !h.contains c then (true, ins c h) else (false, [])
theorem s_PutCard_eq {n : Nat} (hn : BIG ≤ n) {h : List Card} (hl : h.length ≤ 1048576) (c : Card) : s_PutCard n h c = some (PC h c) := by
  unfold s_PutCard PC
  rw [s_l2Hand_eq hn (by omega), s_l2Card_eq hn, s_l2Has_eq hn (by omega)]
  cases hh : hand h with
  | false => rfl
  | true =>
    cases hc : isC c with
    | false => rfl
    | true =>
      have := hand_len hh
      have e : decide ((27 : Int) ≤ (h.length : Int)) = !decide (h.length < 27) := by rw [← decide_not]; congr 1; apply propext; omega
      rw [s_l2Put_eq hn (hand_all hh) (by omega) hc, e]
      cases decide (h.length < 27) <;> cases h.contains c <;> rfl
theorem i_PutCard_eq {n : Nat} (hn : BIG ≤ n) {h : List Card} (hl : h.length ≤ 1048576) (c : Card) : i_PutCard n h c = some (PC h c) := by
  unfold i_PutCard PC
  rw [i_IsHand_eq hn (by omega), i_IsCard_eq hn, i_has_eq hn (by omega)]
  cases hh : hand h with
  | false => rfl
  | true =>
    cases hc : isC c with
    | false => rfl
    | true =>
      have h27 := hand_len hh
      obtain ⟨h1, h2, _⟩ := hand_iff.1 hh
      have e : decide ((h.length : Int) = 27) = !decide (h.length < 27) := by rw [← decide_not]; congr 1; apply propext; omega
      rw [slices_Clone_SA4_A4__eq hl, e]
      have hA : AllC (h ++ [c]) := fun x hx => by
        rcases List.mem_append.1 hx with hx | hx
        · exact h1 x hx
        · rw [List.mem_singleton.1 hx]; exact hc
      have e2 : sortd (h ++ [c]) = ins c h := by
        obtain ⟨b1, b2, b3, b4⟩ := sortd_ok hA
        refine ss_uniq b2 (ins_ss hc h1 h2) fun x => ?_
        rw [b3, ins_mem, List.mem_append, List.mem_singleton]; exact or_comm
      cases h.contains c with
      | true => cases decide (h.length < 27) <;> rfl
      | false =>
        cases hd : decide (h.length < 27) with
        | false => rfl
        | true =>
          show ckb (apok 32 (h.length + 1)) _ = _
          rw [ckb_pos (apok_ok (by omega) (by omega)), i_sorted_eq hn hA (by rw [List.length_append, List.length_singleton]; omega), e2]; rfl
def dropI (h : List Card) (k : Nat) : List Card := h.take k ++ h.drop (k + 1)
theorem dropI_sub (h : List Card) (k : Nat) : (dropI h k).Sublist h := by
  have : h = h.take k ++ h.drop k := (List.take_append_drop k h).symm
  conv => rhs; rw [this]
  unfold dropI
  exact List.Sublist.append_left (by rw [← List.drop_drop]; exact List.drop_sublist 1 _) _
theorem dropI_mem {h : List Card} (hnd : h.Nodup) {k : Nat} (hk : k < h.length) {c : Card} : c ∈ dropI h k ↔ c ∈ h ∧ c ≠ gz h k := by
  have g : gz h k = h[k] := gl_eq hk
  have e : h = h.take k ++ h[k] :: h.drop (k + 1) := by rw [← List.drop_eq_getElem_cons hk, List.take_append_drop]
  have hnd' := hnd
  rw [e, List.nodup_append] at hnd'
  obtain ⟨_, h2, h3⟩ := hnd'
  rw [List.nodup_cons] at h2
  have em : c ∈ h ↔ c ∈ h.take k ∨ c = h[k] ∨ c ∈ h.drop (k + 1) := by
    conv => lhs; rw [e]
    rw [List.mem_append, List.mem_cons]
  unfold dropI
  rw [List.mem_append, em, g]
  constructor
  · rintro (h | h)
    · exact ⟨.inl h, h3 c h _ List.mem_cons_self⟩
    · exact ⟨.inr (.inr h), fun e => h2.1 (e ▸ h)⟩
  · rintro ⟨h | h | h, hne⟩
    · exact .inl h
    · exact absurd h hne
    · exact .inr h
theorem dropI_get {h : List Card} {j k : Nat} (hj : j < k) (hk : k < h.length) : gz (dropI h k) j = gz h j := by
  have l : (h.take k).length = k := by rw [List.length_take]; omega
  show gl _ (dropI h k) j = gl _ h j
  rw [gl_eq (show j < (dropI h k).length by unfold dropI; rw [List.length_append, l]; omega), gl_eq (show j < h.length by omega)]
  unfold dropI
  rw [List.getElem_append_left (by rw [l]; exact hj), List.getElem_take]
theorem dropI_len {h : List Card} {k : Nat} (hk : k < h.length) : (dropI h k).length + 1 = h.length := by
  unfold dropI; rw [List.length_append, List.length_take, List.length_drop]; omega
theorem ss_sub {h d : List Card} (hs : SS h) (hd : d.Sublist h) : SS d := List.Pairwise.sublist hd hs
theorem wo_drop {h : List Card} (hc : AllC h) (hs : SS h) {k : Nat} (hk : k < h.length) : wo h (gz h k) = dropI h k := by
  refine ss_uniq (ss_sub hs List.filter_sublist) (ss_sub hs (dropI_sub h k)) fun c => ?_
  rw [dropI_mem hs.nodup hk]
  unfold wo
  rw [List.mem_filter, Bool.not_eq_true', decide_eq_false_iff_not]
theorem s_l2Drop_eq' {n : Nat} {h : List Card} (hl : h.length ≤ 1000) {k : Nat} (hk : k < h.length) : s_l2Drop n h (k : Int) = some (dropI h k) := by
  rw [s_l2Drop_ok hl (by omega) (by omega), toNat_cast]; rfl

/-! a feat on a hand -/
abbrev Ft := Int × (Int × (Int × Int))
def plB (f : Ft) : Bool := if f.1 = 1 ∨ f.1 = 2 ∨ f.1 = 4 then decide (f.2.2.1 = 0 ∧ f.2.2.2 = 0) else if f.1 = 3 then true else decide (f.2.1 = 0 ∧ f.2.2.1 = 0 ∧ f.2.2.2 = 0)
theorem s_l12Plain_eq (n : Nat) (f : Ft) : s_l12Plain n f = some (plB f) := by
  obtain ⟨k, a, b, c⟩ := f
  unfold s_l12Plain s_l12Plain_J1 plB
  simp only []
  by_cases h1 : k = 1
  · subst h1; by_cases hb : b = 0 <;> by_cases hc : c = 0 <;> simp [hb, hc]
  · by_cases h2 : k = 2
    · subst h2; by_cases hb : b = 0 <;> by_cases hc : c = 0 <;> simp [hb, hc]
    · by_cases h4 : k = 4
      · subst h4; by_cases hb : b = 0 <;> by_cases hc : c = 0 <;> simp [hb, hc]
      · by_cases h3 : k = 3
        · subst h3; simp
        · by_cases ha : a = 0 <;> by_cases hb : b = 0 <;> by_cases hc : c = 0 <;> simp [h1, h2, h3, h4, ha, hb, hc]
structure FeatR (n : Nat) (t : Tbl) (f : Ft) (ok : Bool) (x : List Card) : Prop where
  i : ∃ y, _impl_Table__feat'k n t f = some (y, ok) ∧ (ok = true → y = x)
  s : ∃ y b, s_l12Hand'k n t.1 f = some (y, b) ∧ (b && plB f) = ok ∧ (ok = true → y = x)
  l : x.length ≤ 81
theorem feat_ok {n : Nat} (hn : BIG ≤ n) {t : Tbl} (hh : hand t.1 = true) (f : Ft) : ∃ ok x, FeatR n t f ok x := by
  obtain ⟨h, p⟩ := t
  obtain ⟨k, a, b, c⟩ := f
  have hh : hand h = true := hh
  obtain ⟨h1, h2, h3⟩ := hand_iff.1 hh
  have H := HandL.of hh
  have hin : ∀ lo hi x : Int, i_within n x lo hi = some (decide (lo ≤ x ∧ x ≤ hi)) := fun lo hi x => by rw [i_within_eq]
  have e4 : (br (decide (a = 0)) (some (decide (b = 0))) (some false)) = some (decide (a = 0) && decide (b = 0)) := by cases decide (a = 0) <;> rfl
  have e4' : (br (decide (a = 0) && decide (b = 0)) (some (decide (c = 0))) (some false)) = some (decide (a = 0) && decide (b = 0) && decide (c = 0)) := by cases (decide (a = 0) && decide (b = 0)) <;> rfl
  have e5 : (br (decide (b = 0)) (some (decide (c = 0))) (some false)) = some (decide (b = 0) && decide (c = 0)) := by cases decide (b = 0) <;> rfl
  have e7 : (ob (br (decide (b = 0) && decide (c = 0)) (ob (i_within n a 0 80) fun r6 => some r6) (some false)) fun (x7 : Bool) => (some x7 : Opt Bool)) = some (decide (b = 0) && decide (c = 0) && decide (0 ≤ a ∧ a ≤ 80)) := by rw [hin]; cases (decide (b = 0) && decide (c = 0)) <;> rfl
  have e7' : (br (decide (b = 0) && decide (c = 0)) (ob (i_within n a 0 80) fun r6 => some r6) (some false)) = some (decide (b = 0) && decide (c = 0) && decide (0 ≤ a ∧ a ≤ 80)) := by rw [hin]; cases (decide (b = 0) && decide (c = 0)) <;> rfl
  have eF : _impl_Table__feat'k n (h, p) (k, (a, (b, c))) = (br (decide (k = 1)) (br (decide (b = 0) && decide (c = 0) && decide (0 ≤ a ∧ a ≤ 80)) (ob (i_card n a) fun r8 => ob (i_PutCard n h r8) fun r9 => some (r9.2, r9.1)) (some ([], false))) (br (decide (k = 2)) (ob (br (decide (b = 0) && decide (c = 0) && decide (0 ≤ a ∧ a ≤ 80)) (some (decide (a < (h.length : Int)))) (some false)) fun x10 => br x10 (ckb (inb a h.length) (ob (i_without n h (gl ⟨0, 0, 0, 0⟩ h a.toNat)) fun r11 => some (r11, true))) (some ([], false))) (br (decide (k = 3)) (ob (i_taken'k n h ⟨a, b, c⟩) fun r13 => some (r13.1, r13.2)) (br (decide (k = 4)) (br (decide (b = 0) && decide (c = 0) && decide (0 ≤ a ∧ a ≤ 80)) (ob (i_card n a) fun r15 => ob (i_ShiftTo n ⟨0, 0, 0, 0⟩ r15) fun r16 => ob (_impl_Map__images n r16.1 h) fun r17 => some (r17, true)) (some ([], false))) (br (decide (k = 5)) (br (decide (a = 0) && decide (b = 0) && decide (c = 0)) (ob (i_FillCap n h) fun r18 => some (r18.2, r18.1)) (some ([], false))) (br (decide (k = 6)) (some ([], decide (a = 0) && decide (b = 0) && decide (c = 0))) (some ([], false)))))))) := by
    unfold _impl_Table__feat'k
    simp only [e4, ob_some, e4', e5, e7', lt_eq]
  have eS : s_l12Hand'k n h (k, (a, (b, c))) = br (decide (k = 1)) (ob (s_CardAt n a) fun r3 => br (! r3.2) (some (h, false)) (ob (s_PutCard n h r3.1) fun r4 => some (r4.2, r4.1))) (br (decide (k = 2)) (ob (s_l1In n a 0 (w64 ((h.length : Int) - 1))) fun r6 => br (! r6) (some (h, false)) (ob (s_l2Drop n h a) fun r7 => some (r7, true))) (br (decide (k = 3)) (ob (s_l2Lines n h) fun r8 => ob (s_l7Has n r8 ⟨a, b, c⟩) fun r10 => br (! r10) (some (h, false)) (ob (s_l2Drop n h c) fun r11 => ob (s_l2Drop n r11 b) fun r12 => ob (s_l2Drop n r12 a) fun r13 => some (r13, true))) (br (decide (k = 4)) (ob (s_CardAt n a) fun r14 => ob (s_ShiftTo n ⟨0, 0, 0, 0⟩ r14.1) fun r16 => br (! r14.2) (some (h, false)) (ob (s_MapHand n r16.1 h) fun r17 => some (r17.2, r17.1))) (br (decide (k = 5)) (ob (s_FillCap n h) fun r18 => some (r18.2, r18.1)) (br (decide (k = 6)) (some ([], true)) (some (h, false))))))) := rfl
  by_cases k1 : k = 1
  · subst k1
    have hpl : plB (1, (a, (b, c))) = (decide (b = 0) && decide (c = 0)) := by unfold plB; simp
    rw [show decide ((1 : Int) = 1) = true from rfl, br_true] at eF eS
    have hA : s_CardAt n a = some (A1 a) := s_CardAt_eq n a
    by_cases ha : 0 ≤ a ∧ a ≤ 80
    · have eA : A1 a = (cardAt a, true) := by unfold A1; rw [if_pos ha]
      have hsE : s_l12Hand'k n h (1, (a, (b, c))) = some ((PC h (cardAt a)).2, (PC h (cardAt a)).1) := by
        rw [eS, hA, ob_some, eA]
        simp only [Bool.not_true, br_false]
        rw [s_PutCard_eq hn (by omega), ob_some]
      rw [decide_eq_true ha, Bool.and_true] at eF
      have hpl2 : (PC h (cardAt a)).2.length ≤ 81 := by
        unfold PC; split
        · have := ins_len (c := cardAt a) (l := h); simp only []; omega
        · simp
      cases hbc : (decide (b = 0) && decide (c = 0)) with
      | true =>
        rw [hbc, br_true, i_card_eq n ha, ob_some, i_PutCard_eq hn (by omega), ob_some] at eF
        exact ⟨(PC h (cardAt a)).1, (PC h (cardAt a)).2, ⟨_, eF, fun _ => rfl⟩, ⟨_, _, hsE, by rw [hpl, hbc, Bool.and_true], fun _ => rfl⟩, hpl2⟩
      | false =>
        rw [hbc, br_false] at eF
        exact ⟨false, [], ⟨_, eF, fun h => by cases h⟩, ⟨_, _, hsE, by rw [hpl, hbc, Bool.and_false], fun h => by cases h⟩, by simp⟩
    · have eA : A1 a = (⟨0, 0, 0, 0⟩, false) := by unfold A1; rw [if_neg ha]
      have hsE : s_l12Hand'k n h (1, (a, (b, c))) = some (h, false) := by
        rw [eS, hA, ob_some, eA]
        rfl
      rw [decide_eq_false ha, Bool.and_false, br_false] at eF
      exact ⟨false, [], ⟨_, eF, fun h => by cases h⟩, ⟨_, _, hsE, by simp, fun h => by cases h⟩, by simp⟩
  rw [decide_eq_false k1, br_false] at eF eS
  by_cases k2 : k = 2
  · subst k2
    have hpl : plB (2, (a, (b, c))) = (decide (b = 0) && decide (c = 0)) := by unfold plB; simp
    rw [show decide ((2 : Int) = 2) = true from rfl, br_true] at eF eS
    by_cases ha : 0 ≤ a ∧ a ≤ (h.length : Int) - 1
    · obtain ⟨j, rfl⟩ : ∃ j : Nat, a = j := ⟨a.toNat, by omega⟩
      have hj : j < h.length := by omega
      have hsE : s_l12Hand'k n h (2, ((j : Int), (b, c))) = some (dropI h j, true) := by
        rw [eS, w64_id (by omega), s_l1In_eq, ob_some, decide_eq_true ha]
        simp only [Bool.not_true, br_false]
        rw [s_l2Drop_eq' (by omega) hj, ob_some]
      rw [decide_eq_true (show 0 ≤ (j : Int) ∧ (j : Int) ≤ 80 by omega), Bool.and_true] at eF
      cases hbc : (decide (b = 0) && decide (c = 0)) with
      | true =>
        rw [hbc, br_true, ob_some, br_pos (decide_eq_true (show (j : Int) < (h.length : Int) by omega)), ckb_pos (inb_ok hj), toNat_cast, i_without_eq hn (by omega), ob_some] at eF
        have e : wo h (gl ⟨0, 0, 0, 0⟩ h j) = dropI h j := wo_drop h1 h2 hj
        rw [e] at eF
        have := dropI_len hj
        exact ⟨true, dropI h j, ⟨_, eF, fun _ => rfl⟩, ⟨_, _, hsE, by rw [hpl, hbc]; rfl, fun _ => rfl⟩, by omega⟩
      | false =>
        rw [hbc, br_false, ob_some, br_false] at eF
        exact ⟨false, [], ⟨_, eF, fun h => by cases h⟩, ⟨_, _, hsE, by rw [hpl, hbc]; rfl, fun h => by cases h⟩, by simp⟩
    · have hsE : s_l12Hand'k n h (2, (a, (b, c))) = some (h, false) := by
        rw [eS, w64_id (by omega), s_l1In_eq, ob_some, decide_eq_false ha]
        rfl
      have : _impl_Table__feat'k n (h, p) (2, (a, (b, c))) = some ([], false) := by
        rw [eF]
        by_cases h80 : 0 ≤ a ∧ a ≤ 80
        · rw [decide_eq_true h80, Bool.and_true, decide_eq_false (show ¬ a < (h.length : Int) by omega)]
          cases (decide (b = 0) && decide (c = 0)) <;> rfl
        · rw [decide_eq_false h80, Bool.and_false]; rfl
      exact ⟨false, [], ⟨_, this, fun h => by cases h⟩, ⟨_, _, hsE, by simp, fun h => by cases h⟩, by simp⟩
  rw [decide_eq_false k2, br_false] at eF eS
  by_cases k3 : k = 3
  · subst k3
    have hpl : plB (3, (a, (b, c))) = true := by unfold plB; simp
    rw [show decide ((3 : Int) = 3) = true from rfl, br_true] at eF eS
    have h729 := lines_len27 hh
    cases hm : (linesOf h).contains ⟨a, b, c⟩ with
    | false =>
      have hsE : s_l12Hand'k n h (3, (a, (b, c))) = some (h, false) := by
        rw [eS, s_l2Lines_eq hn (by omega) h1, ob_some, s_l7Has_eq hn (by omega), ob_some, hm]
        rfl
      have eT : i_taken'k n h ⟨a, b, c⟩ = some ([], false) := by
        unfold i_taken'k
        rw [i_linesIn_eq hn (by omega) h1 H.nd, ob_some, contains3_eq hn (by omega), ob_some, hm]; rfl
      rw [eT, ob_some] at eF
      exact ⟨false, [], ⟨_, eF, fun h => by cases h⟩, ⟨_, _, hsE, by simp, fun h => by cases h⟩, by simp⟩
    | true =>
      obtain ⟨i, j, l, e, L⟩ := (mem_lines H).1 (List.contains_iff_mem.1 hm)
      injection e with ea eb ec
      subst ea; subst eb; subst ec
      have hij := L.ij; have hjl := L.jk; have hl := L.kl
      have d1 := dropI_len hl
      have d2 := dropI_len (h := dropI h l) (k := j) (by omega)
      have d3 := dropI_len (h := dropI (dropI h l) j) (k := i) (by omega)
      have hsE : s_l12Hand'k n h (3, ((i : Int), ((j : Int), (l : Int)))) = some (dropI (dropI (dropI h l) j) i, true) := by
        rw [eS, s_l2Lines_eq hn (by omega) h1, ob_some, s_l7Has_eq hn (by omega), ob_some, hm]
        simp only [Bool.not_true, br_false]
        rw [s_l2Drop_eq' (by omega) hl, ob_some, s_l2Drop_eq' (h := dropI h l) (by omega) (by omega), ob_some, s_l2Drop_eq' (h := dropI (dropI h l) j) (by omega) (by omega), ob_some]
      have s1 := ss_sub h2 (dropI_sub h l)
      have s2 := ss_sub s1 (dropI_sub _ j)
      have s3 := ss_sub s2 (dropI_sub _ i)
      have eW : wo (wo (wo h (gz h i)) (gz h j)) (gz h l) = dropI (dropI (dropI h l) j) i := by
        refine ss_uniq (ss_sub h2 ((List.filter_sublist.trans List.filter_sublist).trans List.filter_sublist)) s3 fun x => ?_
        rw [dropI_mem s2.nodup (by omega), dropI_mem s1.nodup (by omega), dropI_mem H.nd hl, dropI_get (h := dropI h l) hij (by omega), dropI_get (j := i) (by omega) hl, dropI_get (j := j) hjl hl]
        unfold wo
        simp only [List.mem_filter, Bool.not_eq_true', decide_eq_false_iff_not]
        constructor
        · rintro ⟨⟨⟨a, b⟩, c⟩, d⟩; exact ⟨⟨⟨a, d⟩, c⟩, b⟩
        · rintro ⟨⟨⟨a, d⟩, c⟩, b⟩; exact ⟨⟨⟨a, b⟩, c⟩, d⟩
      have eT : i_taken'k n h ⟨(i : Int), (j : Int), (l : Int)⟩ = some (wo (wo (wo h (gz h i)) (gz h j)) (gz h l), true) := by
        unfold i_taken'k
        rw [i_linesIn_eq hn (by omega) h1 H.nd, ob_some, contains3_eq hn (by omega), ob_some, hm, Bool.not_true, br_false]
        have wl : ∀ (x : List Card) (c : Card), x.length ≤ 27 → (wo x c).length ≤ 27 := fun x c hx => Nat.le_trans (List.length_filter_le _ _) hx
        obtain ⟨q, rfl⟩ : ∃ q, n = q + 5 := ⟨n - 5, by unfold BIG at hn; omega⟩
        simp only [fx_succ, i_taken'k_L1, lt_eq]
        rw [show decide ((0 : Int) < 3) = true from rfl, br_true, show inb 0 3 = true from rfl, ckb_true]
        have g0 : V3.get (⟨(i : Int), (j : Int), (l : Int)⟩ : V3 Int) (0 : Int).toNat = (i : Int) := rfl
        have g1 : V3.get (⟨(i : Int), (j : Int), (l : Int)⟩ : V3 Int) (1 : Int).toNat = (j : Int) := rfl
        have g2 : V3.get (⟨(i : Int), (j : Int), (l : Int)⟩ : V3 Int) (2 : Int).toNat = (l : Int) := rfl
        rw [g0, ckb_pos (inb_ok (show i < h.length by omega)), toNat_cast, i_without_eq hn (by omega), ob_some, show w64 (0 + 1) = 1 from by decide]
        rw [show decide ((1 : Int) < 3) = true from rfl, br_true, show inb 1 3 = true from rfl, ckb_true]
        rw [g1, ckb_pos (inb_ok (show j < h.length by omega)), toNat_cast, i_without_eq hn (by have := wl h (gl ⟨0, 0, 0, 0⟩ h i) h3; omega), ob_some, show w64 (1 + 1) = 2 from by decide]
        rw [show decide ((2 : Int) < 3) = true from rfl, br_true, show inb 2 3 = true from rfl, ckb_true]
        rw [g2, ckb_pos (inb_ok hl), toNat_cast, i_without_eq hn (by have := wl _ (gl ⟨0, 0, 0, 0⟩ h j) (wl h (gl ⟨0, 0, 0, 0⟩ h i) h3); omega), ob_some, show w64 (2 + 1) = 3 from by decide]
        rfl
      rw [eT, ob_some, eW] at eF
      exact ⟨true, _, ⟨_, eF, fun _ => rfl⟩, ⟨_, _, hsE, by rw [hpl]; rfl, fun _ => rfl⟩, by show (dropI (dropI (dropI h l) j) i).length ≤ 81; omega⟩
  rw [decide_eq_false k3, br_false] at eF eS
  by_cases k4 : k = 4
  · subst k4
    have hpl : plB (4, (a, (b, c))) = (decide (b = 0) && decide (c = 0)) := by unfold plB; simp
    rw [show decide ((4 : Int) = 4) = true from rfl, br_true] at eF eS
    have hA : s_CardAt n a = some (A1 a) := s_CardAt_eq n a
    by_cases ha : 0 ≤ a ∧ a ≤ 80
    · have eA : A1 a = (cardAt a, true) := by unfold A1; rw [if_pos ha]
      obtain ⟨m, m1, m2, M, m3⟩ := shift_ok hn ha
      have hlen : (sortd (h.map (img m))).length ≤ 81 := by
        have := (sortd_ok (imgs_allC M h1)).2.2.2
        rw [List.length_map] at this; omega
      have hsE : s_l12Hand'k n h (4, (a, (b, c))) = some (sortd (h.map (img m)), true) := by
        rw [eS, hA, ob_some, eA]
        simp only [Bool.not_true, br_false]
        rw [m2, ob_some]
        unfold s_MapHand
        simp only []
        rw [m3, ob_some, s_l2Hand_eq hn (by omega), hh]
        simp only [Bool.not_true, br_false, ob_some]
        rw [s_l5Hand_eq hn M H]; rfl
      rw [decide_eq_true ha, Bool.and_true] at eF
      cases hbc : (decide (b = 0) && decide (c = 0)) with
      | true =>
        rw [hbc, br_true, i_card_eq n ha, ob_some, m1, ob_some, i_images_eq hn M H, ob_some] at eF
        exact ⟨true, _, ⟨_, eF, fun _ => rfl⟩, ⟨_, _, hsE, by rw [hpl, hbc]; rfl, fun _ => rfl⟩, hlen⟩
      | false =>
        rw [hbc, br_false] at eF
        exact ⟨false, [], ⟨_, eF, fun h => by cases h⟩, ⟨_, _, hsE, by rw [hpl, hbc]; rfl, fun h => by cases h⟩, by simp⟩
    · have eA : A1 a = (⟨0, 0, 0, 0⟩, false) := by unfold A1; rw [if_neg ha]
      obtain ⟨m, m1, m2, M, m3⟩ := shift_ok hn (r := 0) (by omega)
      have hsE : s_l12Hand'k n h (4, (a, (b, c))) = some (h, false) := by
        have e0 : cardAt 0 = ⟨0, 0, 0, 0⟩ := by decide
        rw [e0] at m2
        rw [eS, hA, ob_some, eA]
        simp only []
        rw [m2]; rfl
      rw [decide_eq_false ha, Bool.and_false, br_false] at eF
      exact ⟨false, [], ⟨_, eF, fun h => by cases h⟩, ⟨_, _, hsE, by simp, fun h => by cases h⟩, by simp⟩
  rw [decide_eq_false k4, br_false] at eF eS
  have hpl : plB (k, (a, (b, c))) = (decide (a = 0) && decide (b = 0) && decide (c = 0)) := by
    unfold plB
    simp only []
    rw [if_neg (by omega), if_neg k3]
    by_cases x : a = 0 <;> by_cases y : b = 0 <;> by_cases z : c = 0 <;> simp [x, y, z]
  have hsE := eS
  by_cases k5 : k = 5
  · subst k5
    rw [show decide ((5 : Int) = 5) = true from rfl, br_true] at eF hsE
    rw [s_FillCap_eq hn (by omega), ob_some] at hsE
    have hl := FC_len h
    cases hz : (decide (a = 0) && decide (b = 0) && decide (c = 0)) with
    | true =>
      rw [hz, br_true, i_FillCap_eq hn (by omega), ob_some] at eF
      exact ⟨(FC h).1, (FC h).2, ⟨_, eF, fun _ => rfl⟩, ⟨_, _, hsE, by rw [hpl, hz, Bool.and_true], fun _ => rfl⟩, hl⟩
    | false =>
      rw [hz, br_false] at eF
      exact ⟨false, [], ⟨_, eF, fun h => by cases h⟩, ⟨_, _, hsE, by rw [hpl, hz, Bool.and_false], fun h => by cases h⟩, by simp⟩
  rw [decide_eq_false k5, br_false] at eF hsE
  by_cases k6 : k = 6
  · subst k6
    rw [show decide ((6 : Int) = 6) = true from rfl, br_true] at eF hsE
    exact ⟨_, [], ⟨_, eF, fun _ => rfl⟩, ⟨_, _, hsE, by rw [hpl, Bool.true_and], fun _ => rfl⟩, by simp⟩
  · rw [decide_eq_false k6, br_false] at eF hsE
    exact ⟨false, [], ⟨_, eF, fun h => by cases h⟩, ⟨_, _, hsE, by simp, fun h => by cases h⟩, by simp⟩

/-! a feat on a table -/
structure DoR (n : Nat) (t : Tbl) (f : Ft) (ok : Bool) (u : Tbl) : Prop where
  i : ∃ y, _impl_Table__do'k n t f = some (y, ok) ∧ (ok = true → y = u)
  s : s_l12Do n t f = some (if ok then (u.2, true, u.1) else ((0, 0), false, []))
  g : ok = true → tableB u = true
theorem do_ok {n : Nat} (hn : BIG ≤ n) {t : Tbl} (ht : tableB t = true) (f : Ft) : ∃ ok u, DoR n t f ok u := by
  have hh := table_hand ht
  obtain ⟨ok, x, ⟨y, ei, hi⟩, ⟨z, b, es, hb, hz⟩, hl⟩ := feat_ok hn hh f
  -- the table behind, by its hand
  have key : ∀ w : Int × Int, ∃ ok' u, (∃ y', _impl_Table__do'k_J1 n (ok, (0, 0), (y, w)) = some (y', ok') ∧ (ok' = true → y' = u)) ∧ s_l12Do_J1 n (b, f, (0, 0), (z, w)) = some (if ok' then (u.2, true, u.1) else ((0, 0), false, [])) ∧ (ok' = true → tableB u = true) := by
    intro w
    unfold _impl_Table__do'k_J1 s_l12Do_J1
    simp only []
    rw [s_l12Plain_eq]
    cases hok : ok with
    | false =>
      refine ⟨false, (x, w), ⟨_, rfl, fun h => by cases h⟩, ?_, fun h => by cases h⟩
      have : (b && plB f) = false := by rw [hb, hok]
      cases hbb : b with
      | false => rfl
      | true =>
        rw [hbb, Bool.true_and] at this
        rw [this]; rfl
    | true =>
      have hy := hi hok; have hz := hz hok
      subst hy; subst hz
      have hbb : b = true := by rw [hok] at hb; rw [Bool.and_eq_true] at hb; exact hb.1
      have hp : plB f = true := by rw [hok] at hb; rw [Bool.and_eq_true] at hb; exact hb.2
      rw [hbb, hp]
      simp only [br_true, ob_some, Bool.not_true, br_false]
      rw [i_IsTable_eq hn (t := (z, w)) (by simp only []; omega), s_l12Good_eq hn (t := (z, w)) (by simp only []; omega)]
      refine ⟨tableB (z, w), (z, w), ⟨_, rfl, fun _ => rfl⟩, ?_, fun h => h⟩
      cases hg : tableB (z, w) with
      | false => rfl
      | true =>
        simp only [ob_some, Bool.not_true, br_false]
        rw [s_l12Own_eq (t := (z, w)) (by simp only []; omega)]; rfl
  have e1 : _impl_Table__do'k n t f = br (decide (f.1 = 3)) (_impl_Table__do'k_J1 n (ok, (0, 0), (y, (w64 (t.2.1 + 1), w64 (t.2.2 + 1))))) (_impl_Table__do'k_J1 n (ok, (0, 0), (y, (t.2.1, w64 (t.2.2 + 1))))) := by
    unfold _impl_Table__do'k
    rw [ei]; rfl
  have e2 : s_l12Do n t f = br (decide (f.1 = 3)) (s_l12Do_J1 n (b, f, (0, 0), (z, (w64 (t.2.1 + 1), w64 (t.2.2 + 1))))) (s_l12Do_J1 n (b, f, (0, 0), (z, (t.2.1, w64 (t.2.2 + 1))))) := by
    unfold s_l12Do
    rw [es]; rfl
  cases h3 : decide (f.1 = 3) with
  | true =>
    obtain ⟨ok', u, k1, k2, k3⟩ := key (w64 (t.2.1 + 1), w64 (t.2.2 + 1))
    rw [h3, br_true] at e1 e2
    exact ⟨ok', u, by rw [e1]; exact k1, by rw [e2]; exact k2, k3⟩
  | false =>
    obtain ⟨ok', u, k1, k2, k3⟩ := key (t.2.1, w64 (t.2.2 + 1))
    rw [h3, br_false] at e1 e2
    exact ⟨ok', u, by rw [e1]; exact k1, by rw [e2]; exact k2, k3⟩
end Go.Pl

/- Plain laws: LDo, LC3, LDo2, LX2, LMs. -/
import Derived.Test.YtkhfihbaopbblaaGreatDoorG8
import Derived.Test.YtkhfihbaopbblaaGreatDoorG9
import Derived.Test.YtkhfihbaopbblaaGreatDoorG2
import Derived.KernelRfl
set_option linter.unusedVariables false
set_option linter.unusedSimpArgs false
namespace Go.Pl
open Go Go.Tv Go.RowKit
set_option linter.unusedVariables false
set_option linter.unusedSimpArgs false
end Go.Pl
namespace Go.Pl
open Go Go.Tv Go.RowKit
set_option linter.unusedVariables false
set_option linter.unusedSimpArgs false
theorem ss_sub {h d : List Card} (hs : SS h) (hd : d.Sublist h) : SS d := List.Pairwise.sublist hd hs
end Go.Pl
namespace Go.Pl
open Go Go.Tv Go.RowKit
set_option linter.unusedVariables false
set_option linter.unusedSimpArgs false
def PC (h : List Card) (c : Card) : Bool × List Card := if hand h && isC c && decide (h.length < 27) && !h.contains c then (true, ins c h) else (false, [])
theorem s_PutCard_eq {n : Nat} (hn : BIG ≤ n) {h : List Card} (hl : h.length ≤ 1048576) (c : Card) : s_PutCard n h c = some (PC h c) := by
  unfold s_PutCard PC
  rw [s_l2Hand_eq hn (by omega), s_l2Card_eq hn, s_l2Has_eq hn (by omega)]
  cases hh : hand h with
  | false => rfl
  | true =>
    cases hc : isC c with
    | false => rfl
    | true =>
      have := hand_len hh
      have e : decide ((27 : Int) ≤ (h.length : Int)) = !decide (h.length < 27) := by rw [← decide_not]; congr 1; apply propext; omega
      rw [s_l2Put_eq hn (hand_all hh) (by omega) hc, e]
      cases decide (h.length < 27) <;> cases h.contains c <;> rfl
theorem i_PutCard_eq {n : Nat} (hn : BIG ≤ n) {h : List Card} (hl : h.length ≤ 1048576) (c : Card) : i_PutCard n h c = some (PC h c) := by
  unfold i_PutCard PC
  rw [i_IsHand_eq hn (by omega), i_IsCard_eq hn, i_has_eq hn (by omega)]
  cases hh : hand h with
  | false => rfl
  | true =>
    cases hc : isC c with
    | false => rfl
    | true =>
      have h27 := hand_len hh
      obtain ⟨h1, h2, _⟩ := hand_iff.1 hh
      have e : decide ((h.length : Int) = 27) = !decide (h.length < 27) := by rw [← decide_not]; congr 1; apply propext; omega
      rw [slices_Clone_SA4_A4__eq hl, e]
      have hA : AllC (h ++ [c]) := fun x hx => by
        rcases List.mem_append.1 hx with hx | hx
        · exact h1 x hx
        · rw [List.mem_singleton.1 hx]; exact hc
      have e2 : sortd (h ++ [c]) = ins c h := by
        obtain ⟨b1, b2, b3, b4⟩ := sortd_ok hA
        refine ss_uniq b2 (ins_ss hc h1 h2) fun x => ?_
        rw [b3, ins_mem, List.mem_append, List.mem_singleton]; exact or_comm
      cases h.contains c with
      | true => cases decide (h.length < 27) <;> rfl
      | false =>
        cases hd : decide (h.length < 27) with
        | false => rfl
        | true =>
          show ckb (apok 32 (h.length + 1)) _ = _
          rw [ckb_pos (apok_ok (by omega) (by omega)), i_sorted_eq hn hA (by rw [List.length_append, List.length_singleton]; omega), e2]; rfl
def dropI (h : List Card) (k : Nat) : List Card := h.take k ++ h.drop (k + 1)
theorem dropI_sub (h : List Card) (k : Nat) : (dropI h k).Sublist h := by
  have : h = h.take k ++ h.drop k := (List.take_append_drop k h).symm
  conv => rhs; rw [this]
  unfold dropI
  exact List.Sublist.append_left (by rw [← List.drop_drop]; exact List.drop_sublist 1 _) _
theorem dropI_mem {h : List Card} (hnd : h.Nodup) {k : Nat} (hk : k < h.length) {c : Card} : c ∈ dropI h k ↔ c ∈ h ∧ c ≠ gz h k := by
  have g : gz h k = h[k] := gl_eq hk
  have e : h = h.take k ++ h[k] :: h.drop (k + 1) := by rw [← List.drop_eq_getElem_cons hk, List.take_append_drop]
  have hnd' := hnd
  rw [e, List.nodup_append] at hnd'
  obtain ⟨_, h2, h3⟩ := hnd'
  rw [List.nodup_cons] at h2
  have em : c ∈ h ↔ c ∈ h.take k ∨ c = h[k] ∨ c ∈ h.drop (k + 1) := by
    conv => lhs; rw [e]
    rw [List.mem_append, List.mem_cons]
  unfold dropI
  rw [List.mem_append, em, g]
  constructor
  · rintro (h | h)
    · exact ⟨.inl h, h3 c h _ List.mem_cons_self⟩
    · exact ⟨.inr (.inr h), fun e => h2.1 (e ▸ h)⟩
  · rintro ⟨h | h | h, hne⟩
    · exact .inl h
    · exact absurd h hne
    · exact .inr h
theorem wo_drop {h : List Card} (hc : AllC h) (hs : SS h) {k : Nat} (hk : k < h.length) : wo h (gz h k) = dropI h k := by
  refine ss_uniq (ss_sub hs List.filter_sublist) (ss_sub hs (dropI_sub h k)) fun c => ?_
  rw [dropI_mem hs.nodup hk]
  unfold wo
  rw [List.mem_filter, Bool.not_eq_true', decide_eq_false_iff_not]
theorem s_l2Drop_eq' {n : Nat} {h : List Card} (hl : h.length ≤ 1000) {k : Nat} (hk : k < h.length) : s_l2Drop n h (k : Int) = some (dropI h k) := by
  rw [s_l2Drop_ok hl (by omega) (by omega), toNat_cast]; rfl
end Go.Pl
namespace Go.Pl
open Go Go.Tv Go.RowKit
set_option linter.unusedVariables false
end Go.Pl
namespace Go.Pl
open Go Go.Tv Go.RowKit
set_option linter.unusedVariables false
theorem i_areCards_eq {n : Nat} (hn : BIG ≤ n) {l : List Card} (hl : l.length ≤ 9223372036854775807) : i_areCards n l = some (l.all isC) := by
  unfold i_areCards slices_ContainsFunc_SA4_A4_'l_i_areCards_1 slices_IndexFunc_SA4_A4_'l_i_areCards_1
  have := fx_find (B := slices_IndexFunc_SA4_A4_'l_i_areCards_1_L1 n) l (fun i => (l, (l.length : Int), (i : Int))) (fun c => !isC c) (fun i => some (i : Int)) (some (-1)) (fun self i hi => ?_) (fun self => ?_) n (big_gt hn (by omega))
  · have e : ((0 : Nat) : Int) = 0 := rfl
    simp only [e] at this
    rw [this]
    have ha := findIdx?_any l fun c => !isC c
    cases hf : l.findIdx? (fun c => !isC c) with
    | none =>
      rw [hf] at ha
      simp only [ob_some]
      have : l.all isC = true := by
        rw [List.all_eq_not_any_not, ← ha]; rfl
      rw [this]; rfl
    | some i =>
      rw [hf] at ha
      simp only [ob_some]
      have : l.all isC = false := by
        rw [List.all_eq_not_any_not, ← ha]; rfl
      rw [this]; simp
  · have e1 : decide ((i : Int) < (l.length : Int)) = true := decide_eq_true (by omega)
    simp only [slices_IndexFunc_SA4_A4_'l_i_areCards_1_L1, e1, br_true, i_areCards_1]
    rw [ckb_pos (inb_ok hi), toNat_cast, gl_eq hi, i_IsCard_eq hn, ob_some, ob_some, lt_eq, w64_succ (by omega)]
    cases isC l[i] <;> simp
  · have e1 : decide ((l.length : Int) < (l.length : Int)) = false := decide_eq_false (by omega)
    simp only [slices_IndexFunc_SA4_A4_'l_i_areCards_1_L1, e1, br_false]
end Go.Pl

/- Plain laws: LR. -/
import Derived.Test.YtklhncjpkkfjmaaLLQ
import Derived.Test.YtklhncjpkkfjmaaLL4
set_option linter.unusedVariables false
set_option linter.unusedSimpArgs false
namespace Go.Pl
open Go Go.Tv Go.RowKit
set_option linter.unusedVariables false

/-! deals -/
abbrev Deal := Int × (Int × List Card)
theorem has_any (l : List Card) (c : Card) : (l.any fun x => decide (x = c)) = l.contains c := by
  induction l with
  | nil => rfl
  | cons a t ih =>
    rw [List.any_cons, List.contains_cons, ih]
    congr 1
    by_cases h : a = c
    · rw [h]; simp
    · rw [decide_eq_false h]; exact (beq_eq_false_iff_ne.2 (Ne.symm h)).symm
theorem s_l2Has_eq {n : Nat} (hn : BIG ≤ n) {h : List Card} (hl : h.length ≤ 9223372036854775807) (c : Card) : s_l2Has n h c = some (h.contains c) := by
  unfold s_l2Has
  rw [s_l2Place_eq hn hl, ob_some]
  have e : decide (0 ≤ place h c) = (h.findIdx? fun x => decide (x = c)).isSome := by
    unfold place placeI
    cases hq : h.findIdx? fun x => decide (x = c) with
    | none => rfl
    | some i => exact decide_eq_true (by simp only []; omega)
  rw [e, findIdx?_any, has_any]
theorem slices_Index_eq {n : Nat} (hn : BIG ≤ n) {h : List Card} (hl : h.length ≤ 9223372036854775807) (c : Card) : slices_Index_SA4_A4_ n h c = some (place h c) := by
  unfold slices_Index_SA4_A4_
  have := fx_find (B := slices_Index_SA4_A4__L1 n) h (fun i => (h, (h.length : Int), (i : Int), c)) (fun x => decide (x = c)) (fun i => some (i : Int)) (some (-1)) (fun self i hi => ?_) (fun self => ?_) n (big_gt hn (by omega))
  · refine Eq.trans this ?_
    unfold place placeI
    cases h.findIdx? fun x => decide (x = c) <;> rfl
  · simp only [slices_Index_SA4_A4__L1, lt_eq]
    rw [show decide ((i : Int) < (h.length : Int)) = true from decide_eq_true (by omega), br_true, ckb_pos (inb_ok hi), toNat_cast, gl_eq hi, w64_succ (by omega), eqd]
    by_cases hc : h[i] = c
    · rw [if_pos (by simp [hc])]; simp [hc]
    · rw [if_neg (by simp [hc])]
      rw [show decide (c = h[i]) = false from decide_eq_false (fun e => hc e.symm), br_false]
  · simp only [slices_Index_SA4_A4__L1]
    rw [show decide ((h.length : Int) < (h.length : Int)) = false from decide_eq_false (by omega), br_false]
theorem i_has_eq {n : Nat} (hn : BIG ≤ n) {h : List Card} (hl : h.length ≤ 9223372036854775807) (c : Card) : i_has n h c = some (h.contains c) := by
  rw [← s_l2Has_eq hn hl]
  unfold i_has slices_Contains_SA4_A4_ s_l2Has
  rw [slices_Index_eq hn hl, s_l2Place_eq hn hl]
  rfl

theorem len_le {l : List Card} : ∀ {m : List Card}, l.Nodup → (∀ c, c ∈ l → c ∈ m) → l.length ≤ m.length := by
  induction l with
  | nil => intro m _ _; exact Nat.zero_le _
  | cons a t ih =>
    intro m hn hs
    have ha := hs a (by simp)
    rw [List.nodup_cons] at hn
    have := ih (m := m.erase a) hn.2 fun c hc => by
      have hne : c ≠ a := fun e => hn.1 (e ▸ hc)
      exact (List.mem_erase_of_ne hne).2 (hs c (by simp [hc]))
    rw [List.length_erase_of_mem ha] at this
    have := List.length_pos_of_mem ha
    rw [List.length_cons]; omega

/-- the k-th card is of the pile's laid part, and not ahead of itself -/
def okAt (p h : List Card) (k : Nat) : Bool := p.contains (gl ⟨0, 0, 0, 0⟩ h k) && !(h.take k).contains (gl ⟨0, 0, 0, 0⟩ h k)
def okFrom (p h : List Card) (k : Nat) : Bool := (List.range' k (h.length - k)).all (okAt p h)
theorem okFrom_step {p h : List Card} {k : Nat} (hk : k < h.length) : okFrom p h k = (okAt p h k && okFrom p h (k + 1)) := by
  unfold okFrom
  rw [range'_cons hk, List.all_cons]
theorem okFrom_end {p h : List Card} : okFrom p h h.length = true := by unfold okFrom; rw [range'_nil (Nat.le_refl _)]; rfl
theorem okFrom_spec {p h : List Card} (ho : okFrom p h 0 = true) : h.Nodup ∧ ∀ c, c ∈ h → c ∈ p := by
  have hk : ∀ k, (hk : k < h.length) → p.contains h[k] = true ∧ (h.take k).contains h[k] = false := fun k hk => by
    have := List.all_eq_true.1 ho k (by rw [List.mem_range'_1]; omega)
    unfold okAt at this
    rw [gl_eq hk, Bool.and_eq_true, Bool.not_eq_true'] at this
    exact this
  refine ⟨?_, fun c hc => ?_⟩
  · rw [List.Nodup, List.pairwise_iff_getElem]
    intro i j hi hj hij e
    have := (hk j hj).2
    rw [← e] at this
    have hm : h[i] ∈ h.take j := by
      rw [List.mem_take_iff_getElem]
      exact ⟨i, by omega, rfl⟩
    rw [List.contains_iff_mem.2 hm] at this
    cases this
  · obtain ⟨k, hkl, rfl⟩ := List.mem_iff_getElem.1 hc
    exact List.contains_iff_mem.1 (hk k hkl).1

/-! the deal's check -/
def dealB (p : List Card) (d : Deal) : Bool := okFrom (p.take d.2.1.toNat) d.2.2 0
theorem sub0 {α : Type} (l : List α) (k : Nat) : sub l 0 k = l.take k := by unfold sub; rw [List.drop_zero, Nat.sub_zero]
theorem s_dealL {n : Nat} (hn : BIG ≤ n) {p : List Card} (hp : p.length = 81) {d : Deal} (hl0 : 0 ≤ d.2.1 ∧ d.2.1 ≤ 81) (hlen : d.2.2.length ≤ 2000000) :
    fx (s_l4Deal_L1 n) n (0, (d.2.1.toNat : Int), 0, d, p) = some (dealB p d) := by
  have := fx_cnt (B := s_l4Deal_L1 n) d.2.2.length (fun i => ((0 : Int), (d.2.1.toNat : Int), (i : Int), d, p)) (fun _ => True) (fun i => some (okFrom (p.take d.2.1.toNat) d.2.2 i)) (fun self i hi _ ih => ?_) n 0 (by omega) trivial (big_gt hn (by omega))
  · exact this
  · simp only [s_l4Deal_L1, lt_eq]
    by_cases h : i < d.2.2.length
    · rw [show decide ((i : Int) < (d.2.2.length : Int)) = true from decide_eq_true (by omega), br_true, ckb_pos (inb_ok h)]
      have e0 : sub p (0 : Int).toNat ((0 : Int).toNat + ((d.2.1.toNat : Nat) : Int).toNat) = p.take d.2.1.toNat := by
        rw [toNat_cast, show (0 : Int).toNat = 0 from rfl, Nat.zero_add, sub0]
      rw [e0, s_l2Has_eq hn (by rw [List.length_take]; omega), ob_some, toNat_cast, ckb_pos (slb_ok (by omega) (by omega) (by omega)), ckb_pos (inb_ok h)]
      rw [sub0, s_l2Has_eq hn (by rw [List.length_take]; omega), ob_some, br_some, ob_some, w64_succ (by omega)]
      have := ih h trivial
      rw [okFrom_step h]
      unfold okAt
      cases h1 : (p.take d.2.1.toNat).contains (gl ⟨0, 0, 0, 0⟩ d.2.2 i) with
      | false => simp
      | true =>
        cases h2 : (d.2.2.take i).contains (gl ⟨0, 0, 0, 0⟩ d.2.2 i) with
        | true => simp
        | false => simpa using this
    · have : i = d.2.2.length := by omega
      subst this
      rw [show decide ((d.2.2.length : Int) < (d.2.2.length : Int)) = false from decide_eq_false (by omega), br_false, okFrom_end]
theorem i_dealL {n : Nat} (hn : BIG ≤ n) {p : List Card} (hp : p.length = 81) {d : Deal} (hl0 : 0 ≤ d.2.1 ∧ d.2.1 ≤ 81) (hlen : d.2.2.length ≤ 2000000) :
    fx (i_IsDeal_L1 n) n (0, (d.2.1.toNat : Int), d.2.2, (d.2.2.length : Int), 0, d, p) = some (dealB p d) := by
  have := fx_cnt (B := i_IsDeal_L1 n) d.2.2.length (fun i => ((0 : Int), (d.2.1.toNat : Int), d.2.2, (d.2.2.length : Int), (i : Int), d, p)) (fun _ => True) (fun i => some (okFrom (p.take d.2.1.toNat) d.2.2 i)) (fun self i hi _ ih => ?_) n 0 (by omega) trivial (big_gt hn (by omega))
  · exact this
  · simp only [i_IsDeal_L1, lt_eq]
    by_cases h : i < d.2.2.length
    · rw [show decide ((i : Int) < (d.2.2.length : Int)) = true from decide_eq_true (by omega), br_true, ckb_pos (inb_ok h)]
      have e0 : sub p (0 : Int).toNat ((0 : Int).toNat + ((d.2.1.toNat : Nat) : Int).toNat) = p.take d.2.1.toNat := by
        rw [toNat_cast, show (0 : Int).toNat = 0 from rfl, Nat.zero_add, sub0]
      rw [e0, i_has_eq hn (by rw [List.length_take]; omega), ob_some, toNat_cast, ckb_pos (slb_ok (by omega) (by omega) (by omega))]
      rw [sub0, i_has_eq hn (by rw [List.length_take]; omega), ob_some, br_some, ob_some, w64_succ (by omega)]
      have := ih h trivial
      rw [okFrom_step h]
      unfold okAt
      cases h1 : (p.take d.2.1.toNat).contains (gl ⟨0, 0, 0, 0⟩ d.2.2 i) with
      | false => simp
      | true =>
        cases h2 : (d.2.2.take i).contains (gl ⟨0, 0, 0, 0⟩ d.2.2 i) with
        | true => simp
        | false => simpa using this
    · have : i = d.2.2.length := by omega
      subst this
      rw [show decide ((d.2.2.length : Int) < (d.2.2.length : Int)) = false from decide_eq_false (by omega), br_false, okFrom_end]
/-- a deal that holds -/
structure DealOK (p : List Card) (d : Deal) : Prop where
  seed : 0 ≤ d.1 ∧ d.1 ≤ 65535
  laid : 0 ≤ d.2.1 ∧ d.2.1 ≤ 81
  nodup : d.2.2.Nodup
  mem : ∀ c, c ∈ d.2.2 → c ∈ p.take d.2.1.toNat
theorem isDeal_eq {n : Nat} (hn : BIG ≤ n) (d : Deal) (hlen : d.2.2.length ≤ 2000000) :
    ∃ b, s_l4Deal n d = some b ∧ i_IsDeal n d = some b ∧ (b = true → ∃ p, s_l4Pile n d.1 = some p ∧ i_pile n d.1 = some p ∧ p.Perm deck ∧ DealOK p d) := by
  by_cases hs : 0 ≤ d.1 ∧ d.1 ≤ 65535
  · by_cases hl : 0 ≤ d.2.1 ∧ d.2.1 ≤ 81
    · obtain ⟨p, e1, e2, hp⟩ := pile_ok hn hs
      obtain ⟨hp81, _, _⟩ := pile_facts hp
      have sl : slb 0 d.2.1 p.length = true := slb_ok (by omega) (by omega) (by omega)
      have ew : (w64 (d.2.1 - 0)).toNat = d.2.1.toNat := by rw [w64_id (by omega), Int.sub_zero]
      have hspec : dealB p d = true → DealOK p d := fun h => ⟨hs, hl, (okFrom_spec h).1, (okFrom_spec h).2⟩
      refine ⟨decide (d.2.2.length ≤ 81) && dealB p d, ?_, ?_, fun h => ?_⟩
      · unfold s_l4Deal s_l4Seed
        simp only [s_l1In_eq, ob_some, hs, hl, and_self, decide_true, Bool.not_true, br_false, e1]
        by_cases h81 : d.2.2.length ≤ 81
        · rw [show decide ((81 : Int) < (d.2.2.length : Int)) = false from decide_eq_false (by omega), br_false, sl, ckb_true, ew, s_dealL hn hp81 hl hlen]
          simp [h81]
        · rw [show decide ((81 : Int) < (d.2.2.length : Int)) = true from decide_eq_true (by omega), br_true]
          simp [h81]
      · unfold i_IsDeal i_isSeed
        simp only [i_within_eq, ob_some, hs, hl, and_self, decide_true, Bool.not_true, br_false, e2]
        by_cases h81 : d.2.1 < (d.2.2.length : Int)
        · rw [show decide (d.2.1 < (d.2.2.length : Int)) = true from decide_eq_true h81, br_true]
          have : dealB p d = false := by
            cases hb : dealB p d with
            | false => rfl
            | true =>
              obtain ⟨_, _, h3, h4⟩ := hspec hb
              have := len_le h3 h4
              rw [List.length_take] at this
              omega
          rw [this, Bool.and_false]
        · rw [show decide (d.2.1 < (d.2.2.length : Int)) = false from decide_eq_false h81, br_false, sl, ckb_true, ew, i_dealL hn hp81 hl hlen]
          have : d.2.2.length ≤ 81 := by omega
          simp [this]
      · rw [Bool.and_eq_true] at h
        exact ⟨p, e1, e2, hp, hspec h.2⟩
    · refine ⟨false, ?_, ?_, fun h => by cases h⟩
      · unfold s_l4Deal s_l4Seed
        simp only [s_l1In_eq, ob_some, hs, and_self, decide_true, Bool.not_true, br_false, decide_eq_false hl, Bool.not_false, br_true]
      · unfold i_IsDeal i_isSeed
        simp only [i_within_eq, ob_some, hs, and_self, decide_true, Bool.not_true, br_false, decide_eq_false hl, Bool.not_false, br_true]
  · refine ⟨false, ?_, ?_, fun h => by cases h⟩
    · unfold s_l4Deal s_l4Seed
      simp only [s_l1In_eq, ob_some, decide_eq_false hs, Bool.not_false, br_true]
    · unfold i_IsDeal i_isSeed
      simp only [i_within_eq, ob_some, decide_eq_false hs, Bool.not_false, br_true]
end Go.Pl

/- Plain laws: LX1, L81, LC, LQ, LR, LSo1. -/
import Derived.Test.YtkhfihbaopbblaaGreatDoorG0
import Derived.KernelRfl
import Derived.Test.YtkhfihbaopbblaaGreatDoorG1
set_option linter.unusedVariables false
set_option linter.unusedSimpArgs false
namespace Go.Pl
open Go Go.Tv Go.RowKit
end Go.Pl
namespace Go.Pl
open Go Go.Tv Go.RowKit
def cardN (k : Nat) : Card := ⟨((k / 27 : Nat) : Int), ((k / 9 % 3 : Nat) : Int), ((k / 3 % 3 : Nat) : Int), ((k % 3 : Nat) : Int)⟩
def cards81 : List Card := (List.range 81).map cardN
theorem mem_cards81 {c : Card} (h : isC c = true) : c ∈ cards81 := by
  rw [isC_iff] at h
  obtain ⟨c0, c1, c2, c3⟩ := c
  simp only at h
  refine List.mem_map.2 ⟨(27 * c0 + 9 * c1 + 3 * c2 + c3).toNat, by rw [List.mem_range]; omega, ?_⟩
  unfold cardN
  congr 1 <;> omega
end Go.Pl
namespace Go.Pl
open Go Go.Tv Go.RowKit
set_option linter.unusedVariables false
set_option linter.unusedSimpArgs false
def d1 (x y : Int) : Int := if x = y then 0 else 1
def I3 (a b c : Card) : Bool × Bool := if (isC a && (isC b && isC c)) = true then (lineB a b c, true) else (false, false)
def bsq : Option ByteArray → Option ByteArray → Bool
  | some a, some b => decide (a.data.toList = b.data.toList) && Nat.beq a.data.toList.length 4
  | _, _ => false
theorem bsq_eq {a b : Option ByteArray} (h : bsq a b = true) : ∃ x, a = some x ∧ b = some x ∧ x.size = 4 := by
  cases a with
  | none => cases h
  | some a =>
    cases b with
    | none => cases h
    | some b =>
      have h : (decide (a.data.toList = b.data.toList) && Nat.beq a.data.toList.length 4) = true := h
      rw [Bool.and_eq_true] at h
      have e : a.data.toList = b.data.toList := of_decide_eq_true h.1
      refine ⟨a, rfl, ?_, ?_⟩
      · cases a with | _ a => cases b with | _ b =>
        have : a = b := Array.toList_inj.1 e
        rw [this]
      · have := Nat.eq_of_beq_eq_true h.2
        exact this
end Go.Pl
namespace Go.Pl
open Go Go.Tv Go.RowKit
set_option linter.unusedVariables false
end Go.Pl
namespace Go.Pl
open Go Go.Tv Go.RowKit
set_option linter.unusedVariables false
theorem has_any (l : List Card) (c : Card) : (l.any fun x => decide (x = c)) = l.contains c := by
  induction l with
  | nil => rfl
  | cons a t ih =>
    rw [List.any_cons, List.contains_cons, ih]
    congr 1
    by_cases h : a = c
    · rw [h]; simp
    · rw [decide_eq_false h]; exact (beq_eq_false_iff_ne.2 (Ne.symm h)).symm
theorem s_l2Has_eq {n : Nat} (hn : BIG ≤ n) {h : List Card} (hl : h.length ≤ 9223372036854775807) (c : Card) : s_l2Has n h c = some (h.contains c) := by
  unfold s_l2Has
  rw [s_l2Place_eq hn hl, ob_some]
  have e : decide (0 ≤ place h c) = (h.findIdx? fun x => decide (x = c)).isSome := by
    unfold place placeI
    cases hq : h.findIdx? fun x => decide (x = c) with
    | none => rfl
    | some i => exact decide_eq_true (by simp only []; omega)
  rw [e, findIdx?_any, has_any]
theorem slices_Index_eq {n : Nat} (hn : BIG ≤ n) {h : List Card} (hl : h.length ≤ 9223372036854775807) (c : Card) : slices_Index_SA4_A4_ n h c = some (place h c) := by
  unfold slices_Index_SA4_A4_
  have := fx_find (B := slices_Index_SA4_A4__L1 n) h (fun i => (h, (h.length : Int), (i : Int), c)) (fun x => decide (x = c)) (fun i => some (i : Int)) (some (-1)) (fun self i hi => ?_) (fun self => ?_) n (big_gt hn (by omega))
  · refine Eq.trans this ?_
    unfold place placeI
    cases h.findIdx? fun x => decide (x = c) <;> rfl
  · simp only [slices_Index_SA4_A4__L1, lt_eq]
    rw [show decide ((i : Int) < (h.length : Int)) = true from decide_eq_true (by omega), br_true, ckb_pos (inb_ok hi), toNat_cast, gl_eq hi, w64_succ (by omega), eqd]
    by_cases hc : h[i] = c
    · rw [if_pos (by simp [hc])]; simp [hc]
    · rw [if_neg (by simp [hc])]
      rw [show decide (c = h[i]) = false from decide_eq_false (fun e => hc e.symm), br_false]
  · simp only [slices_Index_SA4_A4__L1]
    rw [show decide ((h.length : Int) < (h.length : Int)) = false from decide_eq_false (by omega), br_false]
theorem i_has_eq {n : Nat} (hn : BIG ≤ n) {h : List Card} (hl : h.length ≤ 9223372036854775807) (c : Card) : i_has n h c = some (h.contains c) := by
  rw [← s_l2Has_eq hn hl]
  unfold i_has slices_Contains_SA4_A4_ s_l2Has
  rw [slices_Index_eq hn hl, s_l2Place_eq hn hl]
  rfl
end Go.Pl
namespace Go.Pl
open Go Go.Tv Go.RowKit
set_option linter.unusedVariables false
theorem fx_inv {σ ρ : Type} {B : (σ → Opt ρ) → σ → Opt ρ} (I : σ → Prop) (μ : σ → Nat) (Q : Opt ρ → Prop)
    (step : ∀ self s, I s → (∀ s', I s' → μ s' < μ s → Q (self s')) → Q (B self s)) : ∀ k s, I s → μ s < k → Q (fx B k s)
  | 0, _, _, h => by omega
  | k + 1, s, hI, h => by
    rw [fx_succ]
    exact step _ s hI fun s' hI' hlt => fx_inv I μ Q step k s' hI' (by omega)
def AllC (d : List Card) : Prop := ∀ c, c ∈ d → isC c = true
def nm (d : List Card) (i : Nat) : Int := num (gl (⟨0, 0, 0, 0⟩ : Card) d i)
def swc (d : List Card) (i j : Nat) : List Card := (d.set i (gl (⟨0, 0, 0, 0⟩ : Card) d j)).set j (gl (⟨0, 0, 0, 0⟩ : Card) d i)
theorem swp_len (d : List Card) (i j : Nat) : (swc d i j).length = d.length := by simp [swc]
theorem gl_set {α : Type} (z : α) (d : List α) (i : Nat) (x : α) (h : i < d.length) (k : Nat) : gl z (d.set i x) k = if k = i then x else gl z d k := by
  unfold gl
  simp only [List.getD_eq_getElem?_getD, List.getElem?_set]
  by_cases hk : i = k
  · subst hk; simp [h]
  · have hk' : ¬ k = i := fun h => hk h.symm
    simp [hk, hk']
theorem gl_swp {d : List Card} {i j : Nat} (hi : i < d.length) (hj : j < d.length) (k : Nat) :
    gl (⟨0, 0, 0, 0⟩ : Card) (swc d i j) k = if k = j then gl ⟨0, 0, 0, 0⟩ d i else if k = i then gl ⟨0, 0, 0, 0⟩ d j else gl ⟨0, 0, 0, 0⟩ d k := by
  unfold swc
  rw [gl_set _ _ _ _ (by simpa using hj), gl_set _ _ _ _ hi]
theorem nm_swp {d : List Card} {i j : Nat} (hi : i < d.length) (hj : j < d.length) (k : Nat) : nm (swc d i j) k = if k = j then nm d i else if k = i then nm d j else nm d k := by
  unfold nm
  rw [gl_swp hi hj]
  split
  · rfl
  · split <;> rfl
theorem nm_swp_or {d : List Card} {i j : Nat} (hi : i < d.length) (hj : j < d.length) (k : Nat) :
    k = j ∧ nm (swc d i j) k = nm d i ∨ k ≠ j ∧ k = i ∧ nm (swc d i j) k = nm d j ∨ k ≠ j ∧ k ≠ i ∧ nm (swc d i j) k = nm d k := by
  rw [nm_swp hi hj]
  by_cases h1 : k = j
  · rw [if_pos h1]; exact .inl ⟨h1, rfl⟩
  · rw [if_neg h1]
    by_cases h2 : k = i
    · rw [if_pos h2]; exact .inr (.inl ⟨h1, h2, rfl⟩)
    · rw [if_neg h2]; exact .inr (.inr ⟨h1, h2, rfl⟩)
theorem nsj {d : List Card} {i j : Nat} (hi : i < d.length) (hj : j < d.length) : nm (swc d i j) j = nm d i := by rw [nm_swp hi hj, if_pos rfl]
theorem nsi {d : List Card} {i j : Nat} (hi : i < d.length) (hj : j < d.length) : nm (swc d i j) i = nm d j := by
  rw [nm_swp hi hj, if_pos rfl]
  split
  · rename_i h; rw [h]
  · rfl
theorem nso {d : List Card} {i j : Nat} (hi : i < d.length) (hj : j < d.length) {k : Nat} (h1 : k ≠ i) (h2 : k ≠ j) : nm (swc d i j) k = nm d k := by rw [nm_swp hi hj, if_neg h2, if_neg h1]
theorem gl_C {d : List Card} (hd : AllC d) {i : Nat} (h : i < d.length) : isC (gl (⟨0, 0, 0, 0⟩ : Card) d i) = true := by
  rw [gl_eq h]; exact hd _ (List.getElem_mem h)
theorem mem_set_of {α : Type} {l : List α} {i : Nat} {x c : α} (h : c ∈ l.set i x) : c ∈ l ∨ c = x := by
  rcases List.mem_or_eq_of_mem_set h with h | h
  · exact .inl h
  · exact .inr h
theorem swp_AllC {d : List Card} {i j : Nat} (hi : i < d.length) (hj : j < d.length) (hd : AllC d) : AllC (swc d i j) := by
  intro c hc
  rcases mem_set_of hc with h | rfl
  · rcases mem_set_of h with h | rfl
    · exact hd c h
    · exact gl_C hd hj
  · exact gl_C hd hi
theorem i_compareCards_eq {n : Nat} (hn : BIG ≤ n) {a b : Card} (ha : isC a = true) (hb : isC b = true) : i_compareCards n a b = some (num a - num b) := by
  unfold i_compareCards
  have h1 := num_bd ha; have h2 := num_bd hb
  rw [i_number_eq hn ha, i_number_eq hn hb]
  simp only [ob_some, lt_eq]
  rw [w64_id (by omega)]
theorem cmp_at {n : Nat} (hn : BIG ≤ n) {d : List Card} (hd : AllC d) {i j : Nat} (hi : i < d.length) (hj : j < d.length) :
    i_compareCards n (gl (⟨0, 0, 0, 0⟩ : Card) d i) (gl (⟨0, 0, 0, 0⟩ : Card) d j) = some (nm d i - nm d j) := i_compareCards_eq hn (gl_C hd hi) (gl_C hd hj)
inductive Sw (a b : Nat) (d : List Card) : List Card → Prop
  | refl : Sw a b d d
  | step {d' : List Card} (h : Sw a b d d') (i j : Nat) (ha : a ≤ i) (hb : i < b) (ha' : a ≤ j) (hb' : j < b) (hl : b ≤ d.length) : Sw a b d (swc d' i j)
theorem Sw.len {a b : Nat} {d d' : List Card} (h : Sw a b d d') : d'.length = d.length := by
  induction h with
  | refl => rfl
  | step _ i j _ _ _ _ _ ih => rw [swp_len, ih]
theorem Sw.allC {a b : Nat} {d d' : List Card} (h : Sw a b d d') (hd : AllC d) : AllC d' := by
  induction h with
  | refl => exact hd
  | step h i j _ _ _ _ _ ih => exact swp_AllC (by rw [h.len]; omega) (by rw [h.len]; omega) ih
theorem Sw.out {a b : Nat} {d d' : List Card} (h : Sw a b d d') {k : Nat} (hk : k < a ∨ b ≤ k) : nm d' k = nm d k := by
  induction h with
  | refl => rfl
  | step h i j _ _ _ _ _ ih => rw [nm_swp (by rw [h.len]; omega) (by rw [h.len]; omega), if_neg (by omega), if_neg (by omega), ih]
theorem Sw.all {a b : Nat} {d d' : List Card} (h : Sw a b d d') {P : Int → Prop} (hP : ∀ k, a ≤ k → k < b → P (nm d k)) : ∀ k, a ≤ k → k < b → P (nm d' k) := by
  induction h with
  | refl => exact hP
  | step h i j _ _ _ _ _ ih =>
    intro k h1 h2
    rw [nm_swp (by rw [h.len]; omega) (by rw [h.len]; omega)]
    split
    · exact ih i (by omega) (by omega)
    · split
      · exact ih j (by omega) (by omega)
      · exact ih k h1 h2
theorem Sw.trans {a b : Nat} {d d' d'' : List Card} (h : Sw a b d d') (k : Sw a b d' d'') : Sw a b d d'' := by
  induction k with
  | refl => exact h
  | step k i j ha hb ha' hb' hl ih => exact .step ih i j ha hb ha' hb' (by rw [← h.len]; exact hl)
theorem Sw.mono {a b a' b' : Nat} {d d' : List Card} (h : Sw a b d d') (ha : a' ≤ a) (hb : b ≤ b') (hl : b' ≤ d.length) : Sw a' b' d d' := by
  induction h with
  | refl => exact .refl
  | step k i j h1 h2 h3 h4 _ ih => exact .step ih i j (by omega) (by omega) (by omega) (by omega) hl
theorem perm_swp {d : List Card} {i j : Nat} (hi : i < d.length) (hj : j < d.length) : ∀ c, (swc d i j).count c = d.count c := by
  intro c
  unfold swc
  rw [gl_eq hi, gl_eq hj]
  rw [List.count_set (by simpa using hj), List.count_set hi]
  simp only [List.getElem_set]
  have p1 : d[i] = c → 0 < d.count c := fun h => List.count_pos_iff.2 (h ▸ List.getElem_mem hi)
  have p2 : d[j] = c → 0 < d.count c := fun h => List.count_pos_iff.2 (h ▸ List.getElem_mem hj)
  by_cases hij : i = j
  · subst hij
    by_cases h1 : d[i] = c
    · have := p1 h1; simp [h1] <;> omega
    · simp [h1]
  · by_cases h1 : d[i] = c <;> by_cases h2 : d[j] = c
    · have := p1 h1; simp [h1, h2, hij]; omega
    · have := p1 h1; simp [h1, h2, hij]; omega
    · have := p2 h2; simp [h1, h2, hij]
    · simp [h1, h2, hij]
theorem Sw.count {a b : Nat} {d d' : List Card} (h : Sw a b d d') (c : Card) : d'.count c = d.count c := by
  induction h with
  | refl => rfl
  | step h i j _ _ _ _ _ ih => rw [perm_swp (by rw [h.len]; omega) (by rw [h.len]; omega), ih]
def Srt (d : List Card) (a b : Nat) : Prop := ∀ p q, a ≤ p → p < q → q < b → nm d p ≤ nm d q
def Post (a b : Nat) (d0 : List Card) (o : Opt (List Card)) : Prop := ∃ d, o = some d ∧ Sw a b d0 d ∧ Srt d a b
theorem w64_pred {i : Nat} (h : 1 ≤ i) (h2 : i < 9223372036854775807) : w64 ((i : Int) - 1) = ((i - 1 : Nat) : Int) := by rw [w64_id (by omega)]; omega
theorem insertion_ok {n : Nat} (hn : BIG ≤ n) {a b : Nat} {d0 : List Card} (hd0 : AllC d0) (hb : b ≤ d0.length) (hl : d0.length ≤ 1000000) (ha : a ≤ 1000000) :
    Post a b d0 (slices_insertionSortCmpFunc_A4_'o_i_compareCards n a b d0) := by
  unfold slices_insertionSortCmpFunc_A4_'o_i_compareCards
  rw [lt_eq, w64_succ (by omega)]
  refine fx_inv (B := slices_insertionSortCmpFunc_A4_'o_i_compareCards_L2 n) (fun s => ∃ (i : Nat) (d : List Card), s = ((a : Int), (b : Int), (i : Int), d) ∧ a < i ∧ i ≤ 1000001 ∧ Sw a b d0 d ∧ Srt d a i)
    (fun s => (s.2.1 - s.2.2.1).toNat) (Post a b d0) ?_ n _ ⟨a + 1, d0, rfl, by omega, by omega, .refl, fun p q _ _ _ => by omega⟩ (big_gt hn (by simp only []; omega))
  rintro self _ ⟨i, d, rfl, hai, hi1, hsw, hs⟩ ih
  simp only [slices_insertionSortCmpFunc_A4_'o_i_compareCards_L2]
  by_cases hib : i < b
  · rw [br_pos (decide_eq_true (by omega))]
    have hlen := hsw.len
    refine fx_inv (B := slices_insertionSortCmpFunc_A4_'o_i_compareCards_L1 n self) (fun s => ∃ (j : Nat) (e : List Card), s = ((a : Int), (b : Int), (i : Int), (j : Int), e) ∧ a ≤ j ∧ j ≤ i ∧ Sw a b d0 e ∧ ∀ p q, a ≤ p → p < q → q ≤ i → q ≠ j → nm e p ≤ nm e q)
      (fun s => s.2.2.2.1.toNat) (Post a b d0) ?_ n _ ⟨i, d, rfl, by omega, Nat.le_refl _, hsw, fun p q h1 h2 h3 h4 => hs p q h1 h2 (by omega)⟩ (big_gt hn (by simp only []; omega))
    rintro self2 _ ⟨j, e, rfl, haj, hji, hse, H⟩ ih2
    have hle := hse.len
    have hc := hse.allC hd0
    have fin : (a < j → nm e (j - 1) ≤ nm e j) → Post a b d0 (self ((a : Int), (b : Int), w64 ((i : Int) + 1), e)) := fun hx => by
      rw [w64_succ (by omega)]
      refine ih _ ⟨i + 1, e, rfl, by omega, by omega, hse, fun p q h1 h2 h3 => ?_⟩ (by simp only []; omega)
      by_cases hq : q = j
      · have := hx (by omega)
        have h5 := H p (j - 1) h1
        subst hq
        by_cases hp : p = q - 1
        · subst hp; exact this
        · have := h5 (by omega) (by omega) (by omega); omega
      · exact H p q h1 h2 (by omega) hq
    simp only [slices_insertionSortCmpFunc_A4_'o_i_compareCards_L1]
    by_cases hja : a < j
    · rw [br_pos (decide_eq_true (show (a : Int) < (j : Int) by omega))]
      simp only [lt_eq]
      rw [w64_pred (by omega) (by omega), ckb_pos (inb_ok (by omega)), ckb_pos (inb_ok (by omega)), toNat_cast, toNat_cast, cmp_at hn hc (by omega) (by omega), ob_some, ob_some]
      by_cases hlt : nm e j - nm e (j - 1) < 0
      · rw [br_pos (decide_eq_true hlt), ckb_pos (inb_ok (by omega)), ckb_pos (inb_ok (by omega)), ckb_pos (inb_ok (by omega)), ckb_pos (inb_ok (by rw [List.length_set]; omega))]
        refine ih2 _ ⟨j - 1, swc e j (j - 1), rfl, by omega, by omega, .step hse j (j - 1) (by omega) (by omega) (by omega) (by omega) hb, fun p q h1 h2 h3 h4 => ?_⟩ (by simp only []; omega)
        have o1 := nm_swp_or (d := e) (i := j) (j := j - 1) (by omega) (by omega) p
        have o2 := nm_swp_or (d := e) (i := j) (j := j - 1) (by omega) (by omega) q
        have e1 := H p q h1 h2 h3
        have e2 := H p (j - 1) h1
        have e3 := H (j - 1) q (by omega)
        have e4 := H j q (by omega)
        omega
      · rw [br_neg (decide_eq_false hlt)]
        exact fin fun _ => by omega
    · rw [br_neg (decide_eq_false (show ¬ (a : Int) < (j : Int) by omega)), ob_some, br_false, lt_eq]
      exact fin fun h => absurd h hja
  · rw [br_neg (decide_eq_false (by omega))]
    exact ⟨d, rfl, hsw, fun p q h1 h2 h3 => hs p q h1 h2 (by omega)⟩
end Go.Pl

/- Plain laws: LQ, LR, LSo1, LTh, LSum. -/
import Derived.Test.YtklhncjpkkfjmaaG0
set_option linter.unusedVariables false
set_option linter.unusedSimpArgs false
namespace Go.Pl
open Go Go.Tv Go.RowKit
set_option linter.unusedVariables false

/-! the pile of a deal: all 81 cards -/
theorem swap_perm {l : List Card} {i j : Nat} (hi : i < l.length) (hj : j < l.length) : ((l.set i l[j]).set j l[i]).Perm l := by
  have h := Array.swap_perm (xs := l.toArray) (i := i) (j := j) (by simpa using hi) (by simpa using hj)
  rw [Array.perm_iff_toList_perm] at h
  have e : (l.toArray.swap i j (by simpa using hi) (by simpa using hj)).toList = (l.set i l[j]).set j l[i] := by
    rw [Array.swap_def]; simp
  rwa [e] at h
def deck : List Card := (List.range 81).map fun (k : Nat) => cardAt (k : Int)
theorem deck_len : deck.length = 81 := by simp [deck]
theorem deck_isC {c : Card} (h : c ∈ deck) : isC c = true := by
  obtain ⟨k, hk, rfl⟩ := List.mem_map.1 h
  rw [List.mem_range] at hk
  exact cardAt_isC (by omega)
theorem mem_deck {c : Card} (h : isC c = true) : c ∈ deck := by
  have hb := num_bd h
  refine List.mem_map.2 ⟨(num c).toNat, by rw [List.mem_range]; omega, ?_⟩
  rw [show (((num c).toNat : Nat) : Int) = num c by omega, cardAt_num h]
theorem deck_nodup : deck.Nodup := by
  unfold deck
  rw [List.Nodup, List.pairwise_map]
  refine List.Pairwise.imp_of_mem ?_ (List.nodup_range (n := 81))
  intro a b ha hb hne h
  rw [List.mem_range] at ha hb
  have := congrArg num h
  rw [num_cardAt (by omega), num_cardAt (by omega)] at this
  omega
/-- the state of the shuffle -/
def PiOK (s : Int × Int × List Card) : Prop := (0 ≤ s.1 ∧ s.1 ≤ 65535) ∧ (0 ≤ s.2.1 ∧ s.2.1 ≤ 80) ∧ s.2.2.Perm deck
theorem behind_ok (n : Nat) {r : Int} (h : 0 ≤ r ∧ r ≤ 65535) : ∃ r', s_l4Behind n r = some r' ∧ i_behind n r = some r' ∧ 0 ≤ r' ∧ r' ≤ 65535 := by
  refine ⟨Int.tmod (25173 * r + 13849) 65536, ?_, ?_, ?_, ?_⟩
  · unfold s_l4Behind; simp only [lt_eq]; rw [w64_id (x := 25173 * r) (by omega), w64_id (by omega)]
  · unfold i_behind; simp only [lt_eq]; rw [w64_id (x := 25173 * r) (by omega), w64_id (by omega)]
  · rw [Int.tmod_eq_emod_of_nonneg (by omega)]; omega
  · rw [Int.tmod_eq_emod_of_nonneg (by omega)]; omega
def swp (l : List Card) (i j : Nat) : List Card := (l.set i (gl ⟨0, 0, 0, 0⟩ l j)).set j (gl ⟨0, 0, 0, 0⟩ l i)
theorem swp_perm {l : List Card} {i j : Nat} (hi : i < l.length) (hj : j < l.length) : (swp l i j).Perm l := by
  unfold swp
  rw [gl_eq hi, gl_eq hj]
  exact swap_perm hi hj
theorem pile_steps (n : Nat) (g g' : Int × Int × List Card → Option (List Card)) {s : Int × Int × List Card} (h : PiOK s) (hp : 0 < s.2.1) :
    ∃ s', PiOK s' ∧ s'.2.1 = s.2.1 - 1 ∧ s_l4Pile_L1 n g s = g s' ∧ i_pile_L1 n g' s = g' s' := by
  obtain ⟨r, i, l⟩ := s
  obtain ⟨h1, h2, h3⟩ := h
  simp only [] at h1 h2 h3 hp
  obtain ⟨r', e1, e2, h4⟩ := behind_ok n h1
  have hl : l.length = 81 := by rw [h3.length_eq, deck_len]
  have q0 : Int.tdiv r' 8 = r' / 8 := Int.tdiv_eq_ediv_of_nonneg h4.1
  have q1 : Int.tmod (r' / 8) (i + 1) = r' / 8 % (i + 1) := Int.tmod_eq_emod_of_nonneg (by omega)
  have q2 : 0 ≤ r' / 8 % (i + 1) := Int.emod_nonneg _ (by omega)
  have q3 : r' / 8 % (i + 1) < i + 1 := Int.emod_lt_of_pos _ (by omega)
  obtain ⟨j, hj⟩ : ∃ j : Nat, r' / 8 % (i + 1) = j := ⟨(r' / 8 % (i + 1)).toNat, by omega⟩
  obtain ⟨k, hk⟩ : ∃ k : Nat, i = k := ⟨i.toNat, by omega⟩
  have i1 : inb i l.length = true := inb_pos (by omega) (by omega)
  have i2 : inb (j : Int) l.length = true := inb_pos (by omega) (by omega)
  have hne : (!decide (i + 1 = 0)) = true := by simp; omega
  have d1 : decide (0 < i) = true := decide_eq_true hp
  have d2 : decide (1 ≤ i) = true := decide_eq_true (by omega)
  have i3 : ∀ x : Card, inb (j : Int) (l.set k x).length = true := fun x => by rw [List.length_set]; exact i2
  refine ⟨(r', i - 1, swp l k j), ⟨h4, by show 0 ≤ i - 1 ∧ i - 1 ≤ 80; omega, (swp_perm (by omega) (by omega)).trans h3⟩, rfl, ?_, ?_⟩
  · unfold s_l4Pile_L1
    simp only [lt_eq, d1, br_true, e1, ob_some]
    rw [w64_id (x := i + 1) (by omega), ckb_pos hne, q0, w64_id (x := r' / 8) (by omega), q1, hj, i1, i2, ckb_true, ckb_true, ckb_true, w64_id (x := i - 1) (by omega)]
    rw [hk, toNat_cast, toNat_cast, i3, ckb_true]
    rfl
  · unfold i_pile_L1
    simp only [lt_eq, d2, br_true, e2, ob_some]
    rw [w64_id (x := i + 1) (by omega), ckb_pos hne, q0, w64_id (x := r' / 8) (by omega), q1, hj, i1, i2, ckb_true, ckb_true, ckb_true, w64_id (x := i - 1) (by omega)]
    rw [hk, toNat_cast, toNat_cast, i3, ckb_true]
    rfl
theorem pile_loop (n : Nat) : ∀ (k : Nat) (s : Int × Int × List Card), PiOK s → s.2.1.toNat < k → ∃ l, fx (s_l4Pile_L1 n) k s = some l ∧ fx (i_pile_L1 n) k s = some l ∧ l.Perm deck
  | 0, _, _, h => by omega
  | k + 1, s, h, hk => by
    rw [fx_succ, fx_succ]
    by_cases hp : 0 < s.2.1
    · obtain ⟨s', h', e, e1, e2⟩ := pile_steps n (fx (s_l4Pile_L1 n) k) (fx (i_pile_L1 n) k) h hp
      rw [e1, e2]
      exact pile_loop n k s' h' (by omega)
    · obtain ⟨r, i, l⟩ := s
      have hp : ¬ 0 < i := hp
      have d1 : decide (0 < i) = false := decide_eq_false hp
      have d2 : decide (1 ≤ i) = false := decide_eq_false (by omega)
      refine ⟨l, ?_, ?_, h.2.2⟩
      · unfold s_l4Pile_L1; simp only [d1, br_false]
      · unfold i_pile_L1; simp only [d2, br_false]
theorem range'_deck : (List.range' 0 (81 - 0)).flatMap (fun k => [cardAt ((k : Nat) : Int)]) = deck := by
  unfold deck
  rw [List.range_eq_range', List.map_eq_flatMap]
theorem pile_ok {n : Nat} (hn : BIG ≤ n) {r : Int} (h : 0 ≤ r ∧ r ≤ 65535) : ∃ l, s_l4Pile n r = some l ∧ i_pile n r = some l ∧ l.Perm deck := by
  obtain ⟨l, e1, e2, hp⟩ := pile_loop n n (r, 80, deck) ⟨h, by show (0 : Int) ≤ 80 ∧ (80 : Int) ≤ 80; omega, .refl _⟩ (big_gt hn (by show (80 : Int).toNat < _; decide))
  refine ⟨l, ?_, ?_, hp⟩
  · unfold s_l4Pile
    have := fx_app (B := s_l4Pile_L2 n) 81 (fun i a => (r, (i : Int), a)) (fun k => [cardAt ((k : Nat) : Int)]) (fun a => fx (s_l4Pile_L1 n) n (r, 80, a)) 100 (fun self i a hi hM => ?_) (fun self a => by
      simp only [s_l4Pile_L2]; rfl) n 0 [] (by omega) (big_gt hn (by omega)) (by rw [range'_deck, deck_len]; simp)
    · refine Eq.trans this ?_
      rw [range'_deck, List.nil_append]; exact e1
    · simp only [s_l4Pile_L2, s_l2At_eq n (r := (i : Int)) (by omega), lt_eq, ob_some]
      rw [show decide ((i : Int) < 81) = true from decide_eq_true (by omega), br_true, ckb_pos (apok_ok (by simp at hM; omega) (by simp at hM; omega)), w64_succ (by omega)]
  · unfold i_pile
    have := fx_app (B := i_pile_L2 n) 81 (fun i a => (r, (i : Int), a)) (fun k => [cardAt ((k : Nat) : Int)]) (fun a => fx (i_pile_L1 n) n (r, 80, a)) 100 (fun self i a hi hM => ?_) (fun self a => by
      simp only [i_pile_L2]; rfl) n 0 [] (by omega) (big_gt hn (by omega)) (by rw [range'_deck, deck_len]; simp)
    · refine Eq.trans this ?_
      rw [range'_deck, List.nil_append]; exact e2
    · simp only [i_pile_L2, i_card_eq n (r := (i : Int)) (by omega), lt_eq, ob_some]
      rw [show decide ((i : Int) < 81) = true from decide_eq_true (by omega), br_true, ckb_pos (apok_ok (by simp at hM; omega) (by simp at hM; omega)), w64_succ (by omega)]
theorem pile_facts {l : List Card} (h : l.Perm deck) : l.length = 81 ∧ l.Nodup ∧ ∀ c, c ∈ l → isC c = true :=
  ⟨by rw [h.length_eq, deck_len], h.nodup_iff.2 deck_nodup, fun c hc => deck_isC (h.mem_iff.1 hc)⟩
end Go.Pl
namespace Go.Pl
open Go Go.Tv Go.RowKit
set_option linter.unusedVariables false

/-! deals -/
abbrev Deal := Int × (Int × List Card)
theorem has_any (l : List Card) (c : Card) : (l.any fun x => decide (x = c)) = l.contains c := by
  induction l with
  | nil => rfl
  | cons a t ih =>
    rw [List.any_cons, List.contains_cons, ih]
    congr 1
    by_cases h : a = c
    · rw [h]; simp
    · rw [decide_eq_false h]; exact (beq_eq_false_iff_ne.2 (Ne.symm h)).symm
theorem s_l2Has_eq {n : Nat} (hn : BIG ≤ n) {h : List Card} (hl : h.length ≤ 9223372036854775807) (c : Card) : s_l2Has n h c = some (h.contains c) := by
  unfold s_l2Has
  rw [s_l2Place_eq hn hl, ob_some]
  have e : decide (0 ≤ place h c) = (h.findIdx? fun x => decide (x = c)).isSome := by
    unfold place placeI
    cases hq : h.findIdx? fun x => decide (x = c) with
    | none => rfl
    | some i => exact decide_eq_true (by simp only []; omega)
  rw [e, findIdx?_any, has_any]
theorem slices_Index_eq {n : Nat} (hn : BIG ≤ n) {h : List Card} (hl : h.length ≤ 9223372036854775807) (c : Card) : slices_Index_SA4_A4_ n h c = some (place h c) := by
  unfold slices_Index_SA4_A4_
  have := fx_find (B := slices_Index_SA4_A4__L1 n) h (fun i => (h, (h.length : Int), (i : Int), c)) (fun x => decide (x = c)) (fun i => some (i : Int)) (some (-1)) (fun self i hi => ?_) (fun self => ?_) n (big_gt hn (by omega))
  · refine Eq.trans this ?_
    unfold place placeI
    cases h.findIdx? fun x => decide (x = c) <;> rfl
  · simp only [slices_Index_SA4_A4__L1, lt_eq]
    rw [show decide ((i : Int) < (h.length : Int)) = true from decide_eq_true (by omega), br_true, ckb_pos (inb_ok hi), toNat_cast, gl_eq hi, w64_succ (by omega), eqd]
    by_cases hc : h[i] = c
    · rw [if_pos (by simp [hc])]; simp [hc]
    · rw [if_neg (by simp [hc])]
      rw [show decide (c = h[i]) = false from decide_eq_false (fun e => hc e.symm), br_false]
  · simp only [slices_Index_SA4_A4__L1]
    rw [show decide ((h.length : Int) < (h.length : Int)) = false from decide_eq_false (by omega), br_false]
theorem i_has_eq {n : Nat} (hn : BIG ≤ n) {h : List Card} (hl : h.length ≤ 9223372036854775807) (c : Card) : i_has n h c = some (h.contains c) := by
  rw [← s_l2Has_eq hn hl]
  unfold i_has slices_Contains_SA4_A4_ s_l2Has
  rw [slices_Index_eq hn hl, s_l2Place_eq hn hl]
  rfl

theorem len_le {l : List Card} : ∀ {m : List Card}, l.Nodup → (∀ c, c ∈ l → c ∈ m) → l.length ≤ m.length := by
  induction l with
  | nil => intro m _ _; exact Nat.zero_le _
  | cons a t ih =>
    intro m hn hs
    have ha := hs a (by simp)
    rw [List.nodup_cons] at hn
    have := ih (m := m.erase a) hn.2 fun c hc => by
      have hne : c ≠ a := fun e => hn.1 (e ▸ hc)
      exact (List.mem_erase_of_ne hne).2 (hs c (by simp [hc]))
    rw [List.length_erase_of_mem ha] at this
    have := List.length_pos_of_mem ha
    rw [List.length_cons]; omega

/-- the k-th card is of the pile's laid part, and not ahead of itself -/
def okAt (p h : List Card) (k : Nat) : Bool := p.contains (gl ⟨0, 0, 0, 0⟩ h k) && !(h.take k).contains (gl ⟨0, 0, 0, 0⟩ h k)
def okFrom (p h : List Card) (k : Nat) : Bool := (List.range' k (h.length - k)).all (okAt p h)
theorem okFrom_step {p h : List Card} {k : Nat} (hk : k < h.length) : okFrom p h k = (okAt p h k && okFrom p h (k + 1)) := by
  unfold okFrom
  rw [range'_cons hk, List.all_cons]
theorem okFrom_end {p h : List Card} : okFrom p h h.length = true := by unfold okFrom; rw [range'_nil (Nat.le_refl _)]; rfl
theorem okFrom_spec {p h : List Card} (ho : okFrom p h 0 = true) : h.Nodup ∧ ∀ c, c ∈ h → c ∈ p := by
  have hk : ∀ k, (hk : k < h.length) → p.contains h[k] = true ∧ (h.take k).contains h[k] = false := fun k hk => by
    have := List.all_eq_true.1 ho k (by rw [List.mem_range'_1]; omega)
    unfold okAt at this
    rw [gl_eq hk, Bool.and_eq_true, Bool.not_eq_true'] at this
    exact this
  refine ⟨?_, fun c hc => ?_⟩
  · rw [List.Nodup, List.pairwise_iff_getElem]
    intro i j hi hj hij e
    have := (hk j hj).2
    rw [← e] at this
    have hm : h[i] ∈ h.take j := by
      rw [List.mem_take_iff_getElem]
      exact ⟨i, by omega, rfl⟩
    rw [List.contains_iff_mem.2 hm] at this
    cases this
  · obtain ⟨k, hkl, rfl⟩ := List.mem_iff_getElem.1 hc
    exact List.contains_iff_mem.1 (hk k hkl).1

/-! the deal's check -/
def dealB (p : List Card) (d : Deal) : Bool := okFrom (p.take d.2.1.toNat) d.2.2 0
theorem sub0 {α : Type} (l : List α) (k : Nat) : sub l 0 k = l.take k := by unfold sub; rw [List.drop_zero, Nat.sub_zero]
theorem s_dealL {n : Nat} (hn : BIG ≤ n) {p : List Card} (hp : p.length = 81) {d : Deal} (hl0 : 0 ≤ d.2.1 ∧ d.2.1 ≤ 81) (hlen : d.2.2.length ≤ 2000000) :
    fx (s_l4Deal_L1 n) n (0, (d.2.1.toNat : Int), 0, d, p) = some (dealB p d) := by
  have := fx_cnt (B := s_l4Deal_L1 n) d.2.2.length (fun i => ((0 : Int), (d.2.1.toNat : Int), (i : Int), d, p)) (fun _ => True) (fun i => some (okFrom (p.take d.2.1.toNat) d.2.2 i)) (fun self i hi _ ih => ?_) n 0 (by omega) trivial (big_gt hn (by omega))
  · exact this
  · simp only [s_l4Deal_L1, lt_eq]
    by_cases h : i < d.2.2.length
    · rw [show decide ((i : Int) < (d.2.2.length : Int)) = true from decide_eq_true (by omega), br_true, ckb_pos (inb_ok h)]
      have e0 : sub p (0 : Int).toNat ((0 : Int).toNat + ((d.2.1.toNat : Nat) : Int).toNat) = p.take d.2.1.toNat := by
        rw [toNat_cast, show (0 : Int).toNat = 0 from rfl, Nat.zero_add, sub0]
      rw [e0, s_l2Has_eq hn (by rw [List.length_take]; omega), ob_some, toNat_cast, ckb_pos (slb_ok (by omega) (by omega) (by omega)), ckb_pos (inb_ok h)]
      rw [sub0, s_l2Has_eq hn (by rw [List.length_take]; omega), ob_some, br_some, ob_some, w64_succ (by omega)]
      have := ih h trivial
      rw [okFrom_step h]
      unfold okAt
      cases h1 : (p.take d.2.1.toNat).contains (gl ⟨0, 0, 0, 0⟩ d.2.2 i) with
      | false => simp
      | true =>
        cases h2 : (d.2.2.take i).contains (gl ⟨0, 0, 0, 0⟩ d.2.2 i) with
        | true => simp
        | false => simpa using this
    · have : i = d.2.2.length := by omega
      subst this
      rw [show decide ((d.2.2.length : Int) < (d.2.2.length : Int)) = false from decide_eq_false (by omega), br_false, okFrom_end]
theorem i_dealL {n : Nat} (hn : BIG ≤ n) {p : List Card} (hp : p.length = 81) {d : Deal} (hl0 : 0 ≤ d.2.1 ∧ d.2.1 ≤ 81) (hlen : d.2.2.length ≤ 2000000) :
    fx (i_IsDeal_L1 n) n (0, (d.2.1.toNat : Int), d.2.2, (d.2.2.length : Int), 0, d, p) = some (dealB p d) := by
  have := fx_cnt (B := i_IsDeal_L1 n) d.2.2.length (fun i => ((0 : Int), (d.2.1.toNat : Int), d.2.2, (d.2.2.length : Int), (i : Int), d, p)) (fun _ => True) (fun i => some (okFrom (p.take d.2.1.toNat) d.2.2 i)) (fun self i hi _ ih => ?_) n 0 (by omega) trivial (big_gt hn (by omega))
  · exact this
  · simp only [i_IsDeal_L1, lt_eq]
    by_cases h : i < d.2.2.length
    · rw [show decide ((i : Int) < (d.2.2.length : Int)) = true from decide_eq_true (by omega), br_true, ckb_pos (inb_ok h)]
      have e0 : sub p (0 : Int).toNat ((0 : Int).toNat + ((d.2.1.toNat : Nat) : Int).toNat) = p.take d.2.1.toNat := by
        rw [toNat_cast, show (0 : Int).toNat = 0 from rfl, Nat.zero_add, sub0]
      rw [e0, i_has_eq hn (by rw [List.length_take]; omega), ob_some, toNat_cast, ckb_pos (slb_ok (by omega) (by omega) (by omega))]
      rw [sub0, i_has_eq hn (by rw [List.length_take]; omega), ob_some, br_some, ob_some, w64_succ (by omega)]
      have := ih h trivial
      rw [okFrom_step h]
      unfold okAt
      cases h1 : (p.take d.2.1.toNat).contains (gl ⟨0, 0, 0, 0⟩ d.2.2 i) with
      | false => simp
      | true =>
        cases h2 : (d.2.2.take i).contains (gl ⟨0, 0, 0, 0⟩ d.2.2 i) with
        | true => simp
        | false => simpa using this
    · have : i = d.2.2.length := by omega
      subst this
      rw [show decide ((d.2.2.length : Int) < (d.2.2.length : Int)) = false from decide_eq_false (by omega), br_false, okFrom_end]
/-- a deal that holds -/
structure DealOK (p : List Card) (d : Deal) : Prop where
  seed : 0 ≤ d.1 ∧ d.1 ≤ 65535
  laid : 0 ≤ d.2.1 ∧ d.2.1 ≤ 81
  nodup : d.2.2.Nodup
  mem : ∀ c, c ∈ d.2.2 → c ∈ p.take d.2.1.toNat
theorem isDeal_eq {n : Nat} (hn : BIG ≤ n) (d : Deal) (hlen : d.2.2.length ≤ 2000000) :
    ∃ b, s_l4Deal n d = some b ∧ i_IsDeal n d = some b ∧ (b = true → ∃ p, s_l4Pile n d.1 = some p ∧ i_pile n d.1 = some p ∧ p.Perm deck ∧ DealOK p d) := by
  by_cases hs : 0 ≤ d.1 ∧ d.1 ≤ 65535
  · by_cases hl : 0 ≤ d.2.1 ∧ d.2.1 ≤ 81
    · obtain ⟨p, e1, e2, hp⟩ := pile_ok hn hs
      obtain ⟨hp81, _, _⟩ := pile_facts hp
      have sl : slb 0 d.2.1 p.length = true := slb_ok (by omega) (by omega) (by omega)
      have ew : (w64 (d.2.1 - 0)).toNat = d.2.1.toNat := by rw [w64_id (by omega), Int.sub_zero]
      have hspec : dealB p d = true → DealOK p d := fun h => ⟨hs, hl, (okFrom_spec h).1, (okFrom_spec h).2⟩
      refine ⟨decide (d.2.2.length ≤ 81) && dealB p d, ?_, ?_, fun h => ?_⟩
      · unfold s_l4Deal s_l4Seed
        simp only [s_l1In_eq, ob_some, hs, hl, and_self, decide_true, Bool.not_true, br_false, e1]
        by_cases h81 : d.2.2.length ≤ 81
        · rw [show decide ((81 : Int) < (d.2.2.length : Int)) = false from decide_eq_false (by omega), br_false, sl, ckb_true, ew, s_dealL hn hp81 hl hlen]
          simp [h81]
        · rw [show decide ((81 : Int) < (d.2.2.length : Int)) = true from decide_eq_true (by omega), br_true]
          simp [h81]
      · unfold i_IsDeal i_isSeed
        simp only [i_within_eq, ob_some, hs, hl, and_self, decide_true, Bool.not_true, br_false, e2]
        by_cases h81 : d.2.1 < (d.2.2.length : Int)
        · rw [show decide (d.2.1 < (d.2.2.length : Int)) = true from decide_eq_true h81, br_true]
          have : dealB p d = false := by
            cases hb : dealB p d with
            | false => rfl
            | true =>
              obtain ⟨_, _, h3, h4⟩ := hspec hb
              have := len_le h3 h4
              rw [List.length_take] at this
              omega
          rw [this, Bool.and_false]
        · rw [show decide (d.2.1 < (d.2.2.length : Int)) = false from decide_eq_false h81, br_false, sl, ckb_true, ew, i_dealL hn hp81 hl hlen]
          have : d.2.2.length ≤ 81 := by omega
          simp [this]
      · rw [Bool.and_eq_true] at h
        exact ⟨p, e1, e2, hp, hspec h.2⟩
    · refine ⟨false, ?_, ?_, fun h => by cases h⟩
      · unfold s_l4Deal s_l4Seed
        simp only [s_l1In_eq, ob_some, hs, and_self, decide_true, Bool.not_true, br_false, decide_eq_false hl, Bool.not_false, br_true]
      · unfold i_IsDeal i_isSeed
        simp only [i_within_eq, ob_some, hs, and_self, decide_true, Bool.not_true, br_false, decide_eq_false hl, Bool.not_false, br_true]
  · refine ⟨false, ?_, ?_, fun h => by cases h⟩
    · unfold s_l4Deal s_l4Seed
      simp only [s_l1In_eq, ob_some, decide_eq_false hs, Bool.not_false, br_true]
    · unfold i_IsDeal i_isSeed
      simp only [i_within_eq, ob_some, decide_eq_false hs, Bool.not_false, br_true]
end Go.Pl
namespace Go.Pl
open Go Go.Tv Go.RowKit
set_option linter.unusedVariables false

/-! ### sorting cards by their numbers -/
theorem fx_inv {σ ρ : Type} {B : (σ → Opt ρ) → σ → Opt ρ} (I : σ → Prop) (μ : σ → Nat) (Q : Opt ρ → Prop)
    (step : ∀ self s, I s → (∀ s', I s' → μ s' < μ s → Q (self s')) → Q (B self s)) : ∀ k s, I s → μ s < k → Q (fx B k s)
  | 0, _, _, h => by omega
  | k + 1, s, hI, h => by
    rw [fx_succ]
    exact step _ s hI fun s' hI' hlt => fx_inv I μ Q step k s' hI' (by omega)

def AllC (d : List Card) : Prop := ∀ c, c ∈ d → isC c = true
def nm (d : List Card) (i : Nat) : Int := num (gl (⟨0, 0, 0, 0⟩ : Card) d i)
def swc (d : List Card) (i j : Nat) : List Card := (d.set i (gl (⟨0, 0, 0, 0⟩ : Card) d j)).set j (gl (⟨0, 0, 0, 0⟩ : Card) d i)
theorem swp_len (d : List Card) (i j : Nat) : (swc d i j).length = d.length := by simp [swc]
theorem gl_set {α : Type} (z : α) (d : List α) (i : Nat) (x : α) (h : i < d.length) (k : Nat) : gl z (d.set i x) k = if k = i then x else gl z d k := by
  unfold gl
  simp only [List.getD_eq_getElem?_getD, List.getElem?_set]
  by_cases hk : i = k
  · subst hk; simp [h]
  · have hk' : ¬ k = i := fun h => hk h.symm
    simp [hk, hk']
theorem gl_swp {d : List Card} {i j : Nat} (hi : i < d.length) (hj : j < d.length) (k : Nat) :
    gl (⟨0, 0, 0, 0⟩ : Card) (swc d i j) k = if k = j then gl ⟨0, 0, 0, 0⟩ d i else if k = i then gl ⟨0, 0, 0, 0⟩ d j else gl ⟨0, 0, 0, 0⟩ d k := by
  unfold swc
  rw [gl_set _ _ _ _ (by simpa using hj), gl_set _ _ _ _ hi]
theorem nm_swp {d : List Card} {i j : Nat} (hi : i < d.length) (hj : j < d.length) (k : Nat) : nm (swc d i j) k = if k = j then nm d i else if k = i then nm d j else nm d k := by
  unfold nm
  rw [gl_swp hi hj]
  split
  · rfl
  · split <;> rfl
theorem nm_swp_or {d : List Card} {i j : Nat} (hi : i < d.length) (hj : j < d.length) (k : Nat) :
    k = j ∧ nm (swc d i j) k = nm d i ∨ k ≠ j ∧ k = i ∧ nm (swc d i j) k = nm d j ∨ k ≠ j ∧ k ≠ i ∧ nm (swc d i j) k = nm d k := by
  rw [nm_swp hi hj]
  by_cases h1 : k = j
  · rw [if_pos h1]; exact .inl ⟨h1, rfl⟩
  · rw [if_neg h1]
    by_cases h2 : k = i
    · rw [if_pos h2]; exact .inr (.inl ⟨h1, h2, rfl⟩)
    · rw [if_neg h2]; exact .inr (.inr ⟨h1, h2, rfl⟩)
theorem nsj {d : List Card} {i j : Nat} (hi : i < d.length) (hj : j < d.length) : nm (swc d i j) j = nm d i := by rw [nm_swp hi hj, if_pos rfl]
theorem nsi {d : List Card} {i j : Nat} (hi : i < d.length) (hj : j < d.length) : nm (swc d i j) i = nm d j := by
  rw [nm_swp hi hj, if_pos rfl]
  split
  · rename_i h; rw [h]
  · rfl
theorem nso {d : List Card} {i j : Nat} (hi : i < d.length) (hj : j < d.length) {k : Nat} (h1 : k ≠ i) (h2 : k ≠ j) : nm (swc d i j) k = nm d k := by rw [nm_swp hi hj, if_neg h2, if_neg h1]
theorem gl_C {d : List Card} (hd : AllC d) {i : Nat} (h : i < d.length) : isC (gl (⟨0, 0, 0, 0⟩ : Card) d i) = true := by
  rw [gl_eq h]; exact hd _ (List.getElem_mem h)
theorem nm_bd {d : List Card} (hd : AllC d) {i : Nat} (h : i < d.length) : 0 ≤ nm d i ∧ nm d i ≤ 80 := num_bd (gl_C hd h)
theorem mem_set_of {α : Type} {l : List α} {i : Nat} {x c : α} (h : c ∈ l.set i x) : c ∈ l ∨ c = x := by
  rcases List.mem_or_eq_of_mem_set h with h | h
  · exact .inl h
  · exact .inr h
theorem swp_AllC {d : List Card} {i j : Nat} (hi : i < d.length) (hj : j < d.length) (hd : AllC d) : AllC (swc d i j) := by
  intro c hc
  rcases mem_set_of hc with h | rfl
  · rcases mem_set_of h with h | rfl
    · exact hd c h
    · exact gl_C hd hj
  · exact gl_C hd hi
theorem i_compareCards_eq {n : Nat} (hn : BIG ≤ n) {a b : Card} (ha : isC a = true) (hb : isC b = true) : i_compareCards n a b = some (num a - num b) := by
  unfold i_compareCards
  have h1 := num_bd ha; have h2 := num_bd hb
  rw [i_number_eq hn ha, i_number_eq hn hb]
  simp only [ob_some, lt_eq]
  rw [w64_id (by omega)]
theorem cmp_at {n : Nat} (hn : BIG ≤ n) {d : List Card} (hd : AllC d) {i j : Nat} (hi : i < d.length) (hj : j < d.length) :
    i_compareCards n (gl (⟨0, 0, 0, 0⟩ : Card) d i) (gl (⟨0, 0, 0, 0⟩ : Card) d j) = some (nm d i - nm d j) := i_compareCards_eq hn (gl_C hd hi) (gl_C hd hj)

/-! permutations of swaps in a range -/
inductive Sw (a b : Nat) (d : List Card) : List Card → Prop
  | refl : Sw a b d d
  | step {d' : List Card} (h : Sw a b d d') (i j : Nat) (ha : a ≤ i) (hb : i < b) (ha' : a ≤ j) (hb' : j < b) (hl : b ≤ d.length) : Sw a b d (swc d' i j)
theorem Sw.len {a b : Nat} {d d' : List Card} (h : Sw a b d d') : d'.length = d.length := by
  induction h with
  | refl => rfl
  | step _ i j _ _ _ _ _ ih => rw [swp_len, ih]
theorem Sw.allC {a b : Nat} {d d' : List Card} (h : Sw a b d d') (hd : AllC d) : AllC d' := by
  induction h with
  | refl => exact hd
  | step h i j _ _ _ _ _ ih => exact swp_AllC (by rw [h.len]; omega) (by rw [h.len]; omega) ih
theorem Sw.out {a b : Nat} {d d' : List Card} (h : Sw a b d d') {k : Nat} (hk : k < a ∨ b ≤ k) : nm d' k = nm d k := by
  induction h with
  | refl => rfl
  | step h i j _ _ _ _ _ ih => rw [nm_swp (by rw [h.len]; omega) (by rw [h.len]; omega), if_neg (by omega), if_neg (by omega), ih]
theorem Sw.all {a b : Nat} {d d' : List Card} (h : Sw a b d d') {P : Int → Prop} (hP : ∀ k, a ≤ k → k < b → P (nm d k)) : ∀ k, a ≤ k → k < b → P (nm d' k) := by
  induction h with
  | refl => exact hP
  | step h i j _ _ _ _ _ ih =>
    intro k h1 h2
    rw [nm_swp (by rw [h.len]; omega) (by rw [h.len]; omega)]
    split
    · exact ih i (by omega) (by omega)
    · split
      · exact ih j (by omega) (by omega)
      · exact ih k h1 h2
theorem Sw.trans {a b : Nat} {d d' d'' : List Card} (h : Sw a b d d') (k : Sw a b d' d'') : Sw a b d d'' := by
  induction k with
  | refl => exact h
  | step k i j ha hb ha' hb' hl ih => exact .step ih i j ha hb ha' hb' (by rw [← h.len]; exact hl)
theorem Sw.mono {a b a' b' : Nat} {d d' : List Card} (h : Sw a b d d') (ha : a' ≤ a) (hb : b ≤ b') (hl : b' ≤ d.length) : Sw a' b' d d' := by
  induction h with
  | refl => exact .refl
  | step k i j h1 h2 h3 h4 _ ih => exact .step ih i j (by omega) (by omega) (by omega) (by omega) hl
theorem perm_swp {d : List Card} {i j : Nat} (hi : i < d.length) (hj : j < d.length) : ∀ c, (swc d i j).count c = d.count c := by
  intro c
  unfold swc
  rw [gl_eq hi, gl_eq hj]
  rw [List.count_set (by simpa using hj), List.count_set hi]
  simp only [List.getElem_set]
  have p1 : d[i] = c → 0 < d.count c := fun h => List.count_pos_iff.2 (h ▸ List.getElem_mem hi)
  have p2 : d[j] = c → 0 < d.count c := fun h => List.count_pos_iff.2 (h ▸ List.getElem_mem hj)
  by_cases hij : i = j
  · subst hij
    by_cases h1 : d[i] = c
    · have := p1 h1; simp [h1] <;> omega
    · simp [h1]
  · by_cases h1 : d[i] = c <;> by_cases h2 : d[j] = c
    · have := p1 h1; simp [h1, h2, hij]; omega
    · have := p1 h1; simp [h1, h2, hij]; omega
    · have := p2 h2; simp [h1, h2, hij]
    · simp [h1, h2, hij]
theorem Sw.count {a b : Nat} {d d' : List Card} (h : Sw a b d d') (c : Card) : d'.count c = d.count c := by
  induction h with
  | refl => rfl
  | step h i j _ _ _ _ _ ih => rw [perm_swp (by rw [h.len]; omega) (by rw [h.len]; omega), ih]
def Srt (d : List Card) (a b : Nat) : Prop := ∀ p q, a ≤ p → p < q → q < b → nm d p ≤ nm d q
/-- what a sort gives -/
def Post (a b : Nat) (d0 : List Card) (o : Opt (List Card)) : Prop := ∃ d, o = some d ∧ Sw a b d0 d ∧ Srt d a b
theorem w64_pred {i : Nat} (h : 1 ≤ i) (h2 : i < 9223372036854775807) : w64 ((i : Int) - 1) = ((i - 1 : Nat) : Int) := by rw [w64_id (by omega)]; omega

/-! insertion -/
theorem insertion_ok {n : Nat} (hn : BIG ≤ n) {a b : Nat} {d0 : List Card} (hd0 : AllC d0) (hb : b ≤ d0.length) (hl : d0.length ≤ 1000000) (ha : a ≤ 1000000) :
    Post a b d0 (slices_insertionSortCmpFunc_A4_'o_i_compareCards n a b d0) := by
  unfold slices_insertionSortCmpFunc_A4_'o_i_compareCards
  rw [lt_eq, w64_succ (by omega)]
  refine fx_inv (B := slices_insertionSortCmpFunc_A4_'o_i_compareCards_L2 n) (fun s => ∃ (i : Nat) (d : List Card), s = ((a : Int), (b : Int), (i : Int), d) ∧ a < i ∧ i ≤ 1000001 ∧ Sw a b d0 d ∧ Srt d a i)
    (fun s => (s.2.1 - s.2.2.1).toNat) (Post a b d0) ?_ n _ ⟨a + 1, d0, rfl, by omega, by omega, .refl, fun p q _ _ _ => by omega⟩ (big_gt hn (by simp only []; omega))
  rintro self _ ⟨i, d, rfl, hai, hi1, hsw, hs⟩ ih
  simp only [slices_insertionSortCmpFunc_A4_'o_i_compareCards_L2]
  by_cases hib : i < b
  · rw [br_pos (decide_eq_true (by omega))]
    have hlen := hsw.len
    refine fx_inv (B := slices_insertionSortCmpFunc_A4_'o_i_compareCards_L1 n self) (fun s => ∃ (j : Nat) (e : List Card), s = ((a : Int), (b : Int), (i : Int), (j : Int), e) ∧ a ≤ j ∧ j ≤ i ∧ Sw a b d0 e ∧ ∀ p q, a ≤ p → p < q → q ≤ i → q ≠ j → nm e p ≤ nm e q)
      (fun s => s.2.2.2.1.toNat) (Post a b d0) ?_ n _ ⟨i, d, rfl, by omega, Nat.le_refl _, hsw, fun p q h1 h2 h3 h4 => hs p q h1 h2 (by omega)⟩ (big_gt hn (by simp only []; omega))
    rintro self2 _ ⟨j, e, rfl, haj, hji, hse, H⟩ ih2
    have hle := hse.len
    have hc := hse.allC hd0
    -- the loop ends
    have fin : (a < j → nm e (j - 1) ≤ nm e j) → Post a b d0 (self ((a : Int), (b : Int), w64 ((i : Int) + 1), e)) := fun hx => by
      rw [w64_succ (by omega)]
      refine ih _ ⟨i + 1, e, rfl, by omega, by omega, hse, fun p q h1 h2 h3 => ?_⟩ (by simp only []; omega)
      by_cases hq : q = j
      · have := hx (by omega)
        have h5 := H p (j - 1) h1
        subst hq
        by_cases hp : p = q - 1
        · subst hp; exact this
        · have := h5 (by omega) (by omega) (by omega); omega
      · exact H p q h1 h2 (by omega) hq
    simp only [slices_insertionSortCmpFunc_A4_'o_i_compareCards_L1]
    by_cases hja : a < j
    · rw [br_pos (decide_eq_true (show (a : Int) < (j : Int) by omega))]
      simp only [lt_eq]
      rw [w64_pred (by omega) (by omega), ckb_pos (inb_ok (by omega)), ckb_pos (inb_ok (by omega)), toNat_cast, toNat_cast, cmp_at hn hc (by omega) (by omega), ob_some, ob_some]
      by_cases hlt : nm e j - nm e (j - 1) < 0
      · rw [br_pos (decide_eq_true hlt), ckb_pos (inb_ok (by omega)), ckb_pos (inb_ok (by omega)), ckb_pos (inb_ok (by omega)), ckb_pos (inb_ok (by rw [List.length_set]; omega))]
        refine ih2 _ ⟨j - 1, swc e j (j - 1), rfl, by omega, by omega, .step hse j (j - 1) (by omega) (by omega) (by omega) (by omega) hb, fun p q h1 h2 h3 h4 => ?_⟩ (by simp only []; omega)
        have o1 := nm_swp_or (d := e) (i := j) (j := j - 1) (by omega) (by omega) p
        have o2 := nm_swp_or (d := e) (i := j) (j := j - 1) (by omega) (by omega) q
        have e1 := H p q h1 h2 h3
        have e2 := H p (j - 1) h1
        have e3 := H (j - 1) q (by omega)
        have e4 := H j q (by omega)
        omega
      · rw [br_neg (decide_eq_false hlt)]
        exact fin fun _ => by omega
    · rw [br_neg (decide_eq_false (show ¬ (a : Int) < (j : Int) by omega)), ob_some, br_false, lt_eq]
      exact fin fun h => absurd h hja
  · rw [br_neg (decide_eq_false (by omega))]
    exact ⟨d, rfl, hsw, fun p q h1 h2 h3 => hs p q h1 h2 (by omega)⟩
end Go.Pl
namespace Go.Pl
open Go Go.Tv Go.RowKit
set_option linter.unusedVariables false

/-! pairs of a hand with which a card makes a line -/
theorem t3_in012 {x : Int} (h : 0 ≤ x ∧ x ≤ 2) : x = 0 ∨ x = 1 ∨ x = 2 := by omega
theorem t3_self {x : Int} (h : 0 ≤ x ∧ x ≤ 2) : t3 x x = x := by rcases t3_in012 h with rfl | rfl | rfl <;> decide
theorem t3_back' {x y : Int} (hx : 0 ≤ x ∧ x ≤ 2) (hy : 0 ≤ y ∧ y ≤ 2) : t3 x (t3 x y) = y := by
  rcases t3_in012 hx with rfl | rfl | rfl <;> rcases t3_in012 hy with rfl | rfl | rfl <;> decide
theorem th_self {a : Card} (h : isC a = true) : third a a = a := by
  rw [isC_iff] at h
  unfold third
  rw [t3_self h.1, t3_self h.2.1, t3_self h.2.2.1, t3_self h.2.2.2]
theorem th_comm (a b : Card) : third a b = third b a := by
  have e : ∀ x y : Int, t3 x y = t3 y x := fun x y => by unfold t3; congr 1; omega
  unfold third; rw [e a.x0, e a.x1, e a.x2, e a.x3]
theorem th_back {a b : Card} (ha : isC a = true) (hb : isC b = true) : third a (third a b) = b := by
  rw [isC_iff] at ha hb
  unfold third
  simp only []
  rw [t3_back' ha.1 hb.1, t3_back' ha.2.1 hb.2.1, t3_back' ha.2.2.1 hb.2.2.1, t3_back' ha.2.2.2 hb.2.2.2]
theorem th_ne {a b : Card} (ha : isC a = true) (hb : isC b = true) (h : a ≠ b) : third a b ≠ a := fun e => by
  have := th_back ha hb
  rw [e, th_self ha] at this
  exact h this
theorem th_ne2 {a b : Card} (ha : isC a = true) (hb : isC b = true) (h : a ≠ b) : third a b ≠ b := by
  rw [th_comm]; exact th_ne hb ha (Ne.symm h)
/-- the cards are cards, and different ones -/
structure HandL (h : List Card) : Prop where
  c : AllC h
  nd : h.Nodup
  len : h.length ≤ 100
theorem HandL.of {h : List Card} (hh : hand h = true) : HandL h := ⟨hand_all hh, hand_nodup hh, by have := hand_len hh; omega⟩
theorem HandL.ne {h : List Card} (H : HandL h) {i j : Nat} (hi : i < h.length) (hj : j < h.length) (hne : i ≠ j) : gl (⟨0, 0, 0, 0⟩ : Card) h i ≠ gl (⟨0, 0, 0, 0⟩ : Card) h j := by
  rw [gl_eq hi, gl_eq hj]
  exact fun e => hne ((List.getElem_inj H.nd).1 e)
def pr1 (h : List Card) (c : Card) (i j : Nat) : List (V2 Int) := if lineB (gl ⟨0, 0, 0, 0⟩ h i) (gl ⟨0, 0, 0, 0⟩ h j) c = true then [⟨i, j⟩] else []
def pr2 (h : List Card) (c : Card) (i : Nat) : List (V2 Int) := (List.range' (i + 1) (h.length - (i + 1))).flatMap (pr1 h c i)
def prs (h : List Card) (c : Card) : List (V2 Int) := (List.range' 0 (h.length - 0)).flatMap (pr2 h c)
def thr (h : List Card) (c : Card) : Nat := (prs h c).length
theorem pr1_len {h : List Card} {c : Card} {i j : Nat} : (pr1 h c i j).length ≤ 1 := by unfold pr1; split <;> simp
theorem pr2_len {h : List Card} {c : Card} {i : Nat} : (pr2 h c i).length ≤ h.length := by
  have := flen (l := List.range' (i + 1) (h.length - (i + 1))) (f := pr1 h c i) (M := 1) fun _ _ => pr1_len
  rw [List.length_range', Nat.mul_one] at this
  unfold pr2; omega
theorem thr_len {h : List Card} {c : Card} : thr h c ≤ h.length * h.length := by
  have := flen (l := List.range' 0 (h.length - 0)) (f := pr2 h c) (M := h.length) fun _ _ => pr2_len
  rw [List.length_range', Nat.sub_zero] at this
  unfold thr prs; exact this
theorem s_l2Through_eq {n : Nat} (hn : BIG ≤ n) {h : List Card} (H : HandL h) (c : Card) : s_l2Through n h c = some (thr h c : Int) := by
  have hl := H.len
  have hb := thr_len (h := h) (c := c)
  have hb2 : h.length * h.length ≤ 100 * 100 := Nat.mul_le_mul hl hl
  unfold s_l2Through
  have := fx_app (B := s_l2Through_L2 n) h.length (fun i a => (h, ((a.length : Nat) : Int), (i : Int), c)) (pr2 h c) (fun a => some ((a.length : Nat) : Int)) 1000000 (fun self i a hi hM => by
    simp only [s_l2Through_L2, lt_eq]
    rw [br_pos (decide_eq_true (show (i : Int) < (h.length : Int) by omega)), w64_succ (by omega)]
    refine fx_app (B := s_l2Through_L1 n self) h.length (fun j a => (h, ((a.length : Nat) : Int), (i : Int), (j : Int), c)) (pr1 h c i) (fun a => self (h, ((a.length : Nat) : Int), ((i + 1 : Nat) : Int), c)) 1000000 (fun self2 j a hj hM2 => ?_) (fun self2 a => by
      simp only [s_l2Through_L1, lt_eq]
      rw [br_neg (decide_eq_false (by omega)), w64_succ (by omega)]) n (i + 1) a (by omega) (big_gt hn (by omega)) (by unfold pr2 at hM; exact hM)
    simp only [s_l2Through_L1, lt_eq]
    rw [br_pos (decide_eq_true (show (j : Int) < (h.length : Int) by omega)), ckb_pos (inb_ok hi), ckb_pos (inb_ok hj), toNat_cast, toNat_cast, s_l2Line_eq hn c (gl_C H.c hi) (gl_C H.c hj), ob_some, w64_succ (k := j) (by omega), w64_succ (k := a.length) (by omega)]
    unfold pr1
    cases lineB (gl ⟨0, 0, 0, 0⟩ h i) (gl ⟨0, 0, 0, 0⟩ h j) c with
    | true => simp
    | false => simp) (fun self a => by
    simp only [s_l2Through_L2]
    rw [br_neg (decide_eq_false (by omega))]) n 0 [] (Nat.zero_le _) (big_gt hn (by omega)) (by unfold thr prs at hb; simp only [List.length_nil]; omega)
  rw [List.nil_append] at this
  exact this
theorem lineB_iff {a b c : Card} (ha : isC a = true) (hb : isC b = true) (hne : a ≠ b) : (if (if (!eqd a c) = true then !eqd b c else false) = true then eqd (third a b) c else false) = lineB a b c := by
  unfold lineB
  by_cases h : third a b = c
  · have h1 : a ≠ c := fun e => th_ne ha hb hne (h.trans e.symm)
    have h2 : b ≠ c := fun e => th_ne2 ha hb hne (h.trans e.symm)
    simp [eqd, h, h1, h2, hne]
  · simp [eqd, h]
theorem i_pairsFor_eq {n : Nat} (hn : BIG ≤ n) {h : List Card} (H : HandL h) (c : Card) : i_pairsFor n h c = some (prs h c) := by
  have hl := H.len
  have hb := thr_len (h := h) (c := c)
  have hb2 : h.length * h.length ≤ 100 * 100 := Nat.mul_le_mul hl hl
  unfold i_pairsFor
  have := fx_app (B := i_pairsFor_L2 n) h.length (fun i a => (h, h, (h.length : Int), (i : Int), c, a)) (pr2 h c) some 1000000 (fun self i a hi hM => by
    simp only [i_pairsFor_L2, lt_eq]
    rw [br_pos (decide_eq_true (show (i : Int) < (h.length : Int) by omega)), w64_succ (by omega), ckb_pos (inb_ok hi), toNat_cast]
    refine fx_app (B := i_pairsFor_L1 n self) h.length (fun j a => (h, (i : Int), (j : Int), h, (h.length : Int), (i : Int), c, a, gl ⟨0, 0, 0, 0⟩ h i)) (pr1 h c i) (fun a => self (h, h, (h.length : Int), ((i + 1 : Nat) : Int), c, a)) 1000000 (fun self2 j a hj hM2 => ?_) (fun self2 a => by
      simp only [i_pairsFor_L1, lt_eq]
      rw [br_neg (decide_eq_false (by omega)), w64_succ (by omega)]) n (i + 1) a (by omega) (big_gt hn (by omega)) (by unfold pr2 at hM; exact hM)
    simp only [i_pairsFor_L1, lt_eq]
    rw [br_pos (decide_eq_true (show (j : Int) < (h.length : Int) by omega)), inb_ok hj, toNat_cast, i_third_eq hn (gl_C H.c hi) (gl_C H.c hj), w64_succ (k := j) (by omega)]
    simp only [ckb_true, ob_some, br_some]
    unfold pr1 at hM2 ⊢
    by_cases hij : i = j
    · subst hij
      have e1 : lineB (gl ⟨0, 0, 0, 0⟩ h i) (gl ⟨0, 0, 0, 0⟩ h i) c = false := by unfold lineB; simp
      have e2 : (if (if (!eqd (gl ⟨0, 0, 0, 0⟩ h i) c) = true then !eqd (gl ⟨0, 0, 0, 0⟩ h i) c else false) = true then eqd (third (gl ⟨0, 0, 0, 0⟩ h i) (gl ⟨0, 0, 0, 0⟩ h i)) c else false) = false := by
        rw [th_self (gl_C H.c hi)]
        cases eqd (gl ⟨0, 0, 0, 0⟩ h i) c <;> simp
      rw [e2, e1]; simp
    · rw [lineB_iff (gl_C H.c hi) (gl_C H.c hj) (H.ne hi hj hij)]
      cases hx : lineB (gl ⟨0, 0, 0, 0⟩ h i) (gl ⟨0, 0, 0, 0⟩ h j) c with
      | true =>
        rw [hx] at hM2
        simp only [if_true, List.length_singleton] at hM2
        rw [br_true, ckb_pos (apok_ok (by omega) (by omega))]; simp
      | false => simp) (fun self a => by
    simp only [i_pairsFor_L2]
    rw [br_neg (decide_eq_false (by omega))]) n 0 [] (Nat.zero_le _) (big_gt hn (by omega)) (by unfold thr prs at hb; simp only [List.length_nil]; omega)
  rw [List.nil_append] at this
  exact this
theorem i_isBlocked_eq {n : Nat} (hn : BIG ≤ n) {h : List Card} (H : HandL h) (c : Card) : i_isBlocked n h c = some (decide (0 < thr h c)) := by
  unfold i_isBlocked
  rw [i_pairsFor_eq hn H, ob_some]
  congr 1; congr 1; apply propext; unfold thr; omega

/-! cards that a hand has not -/
def outOK (h : List Card) (b : Bool) (k : Nat) : Bool := !h.contains (cardAt k) && (decide (0 < thr h (cardAt k)) == b)
def outs (h : List Card) (b : Bool) : List Int := (List.range' 0 (81 - 0)).flatMap fun k => if outOK h b k = true then [(k : Int)] else []
theorem outs_len {h : List Card} {b : Bool} : (outs h b).length ≤ 81 := by
  have := flen (l := List.range' 0 (81 - 0)) (f := fun k => if outOK h b k = true then [(k : Int)] else []) (M := 1) fun k _ => by split <;> simp
  rw [List.length_range'] at this
  unfold outs; omega
theorem i_outside_eq {n : Nat} (hn : BIG ≤ n) {h : List Card} (H : HandL h) (b : Bool) : i_outside n h b = some (outs h b) := by
  have hl := H.len
  have hb := outs_len (h := h) (b := b)
  unfold i_outside
  have := fx_app (B := i_outside_L1 n) 81 (fun i a => (h, b, (i : Int), a)) (fun k => if outOK h b k = true then [(k : Int)] else []) some 1000000 (fun self i a hi hM => by
    simp only [i_outside_L1, lt_eq]
    rw [br_pos (decide_eq_true (show (i : Int) < 81 by omega)), i_card_eq n (by omega), ob_some, i_has_eq hn (by omega), ob_some, i_isBlocked_eq hn H, ob_some, w64_succ (by omega)]
    simp only [br_some, ob_some]
    have e : (if (!h.contains (cardAt (i : Int))) = true then decide (0 < thr h (cardAt (i : Int))) == b else false) = outOK h b i := by
      unfold outOK; cases h.contains (cardAt (i : Int)) <;> simp
    rw [e]
    cases ho : outOK h b i with
    | true =>
      rw [ho] at hM
      simp only [if_true, List.length_singleton] at hM
      rw [br_true, ckb_pos (apok_ok (by omega) (by omega))]; simp
    | false => simp) (fun self a => by
    simp only [i_outside_L1]
    rw [br_neg (decide_eq_false (show ¬ ((81 : Nat) : Int) < 81 by omega))]) n 0 [] (Nat.zero_le _) (big_gt hn (by omega)) (by unfold outs at hb; simp only [List.length_nil]; omega)
  rw [List.nil_append] at this
  exact this
theorem s_l3Cards_eq {n : Nat} (hn : BIG ≤ n) {h : List Card} (H : HandL h) (b : Bool) : s_l3Cards n h b = some (outs h b) := by
  have hl := H.len
  have hb := outs_len (h := h) (b := b)
  unfold s_l3Cards
  have := fx_app (B := s_l3Cards_L1 n) 81 (fun i a => (h, b, (i : Int), a)) (fun k => if outOK h b k = true then [(k : Int)] else []) some 1000000 (fun self i a hi hM => by
    simp only [s_l3Cards_L1, lt_eq]
    rw [br_pos (decide_eq_true (show (i : Int) < 81 by omega)), s_l2At_eq n (by omega), ob_some, s_l2Has_eq hn (by omega), ob_some, s_l2Through_eq hn H, ob_some, w64_succ (by omega)]
    simp only [br_some, ob_some]
    have e : (if (!h.contains (cardAt (i : Int))) = true then decide (0 < (thr h (cardAt (i : Int)) : Int)) == b else false) = outOK h b i := by
      unfold outOK
      have : decide (0 < (thr h (cardAt (i : Int)) : Int)) = decide (0 < thr h (cardAt (i : Int))) := by congr 1; apply propext; omega
      rw [this]; cases h.contains (cardAt (i : Int)) <;> simp
    rw [e]
    cases ho : outOK h b i with
    | true =>
      rw [ho] at hM
      simp only [if_true, List.length_singleton] at hM
      rw [br_true, ckb_pos (apok_ok (by omega) (by omega))]; simp
    | false => simp) (fun self a => by
    simp only [s_l3Cards_L1]
    rw [br_neg (decide_eq_false (show ¬ ((81 : Nat) : Int) < 81 by omega))]) n 0 [] (Nat.zero_le _) (big_gt hn (by omega)) (by unfold outs at hb; simp only [List.length_nil]; omega)
  rw [List.nil_append] at this
  exact this
end Go.Pl
namespace Go.Pl
open Go Go.Tv

/-! sums over the first numbers, and over pairs of them -/
def S : Nat → (Nat → Nat) → Nat
  | 0, _ => 0
  | n + 1, f => S n f + f n
def T (n : Nat) (g : Nat → Nat → Nat) : Nat := S n fun i => S i (g i)
def b2 (b : Bool) : Nat := if b = true then 1 else 0
def c2' : Nat → Nat
  | 0 => 0
  | n + 1 => c2' n + n
theorem S_range' (f : Nat → Nat) : ∀ (n : Nat), ((List.range' 0 (n - 0)).map f).sum = S n f
  | 0 => rfl
  | n + 1 => by
    have ih := S_range' f n
    simp only [Nat.sub_zero] at ih ⊢
    rw [List.range'_concat, List.map_append, List.sum_append, ih]
    simp [S]
theorem S_congr {f g : Nat → Nat} : ∀ {n : Nat}, (∀ i, i < n → f i = g i) → S n f = S n g
  | 0, _ => rfl
  | n + 1, h => by rw [S, S, S_congr fun i hi => h i (by omega), h n (by omega)]
theorem S_add (f g : Nat → Nat) : ∀ n, S n (fun i => f i + g i) = S n f + S n g
  | 0 => rfl
  | n + 1 => by rw [S, S, S, S_add f g n]; omega
theorem S_zero : ∀ n, S n (fun _ => 0) = 0
  | 0 => rfl
  | n + 1 => by rw [S, S_zero n]
theorem S_const (k : Nat) : ∀ n, S n (fun _ => k) = n * k
  | 0 => by simp [S]
  | n + 1 => by rw [S, S_const k n, Nat.succ_mul]
theorem S_mul (k : Nat) (f : Nat → Nat) : ∀ n, S n (fun i => k * f i) = k * S n f
  | 0 => rfl
  | n + 1 => by rw [S, S, S_mul k f n, Nat.mul_add]
theorem S_le {f g : Nat → Nat} : ∀ {n : Nat}, (∀ i, i < n → f i ≤ g i) → S n f ≤ S n g
  | 0, _ => Nat.le_refl _
  | n + 1, h => by
    have := S_le (n := n) fun i hi => h i (by omega)
    have := h n (by omega)
    rw [S, S]; omega
theorem S_swap (f : Nat → Nat → Nat) (m : Nat) : ∀ n, S n (fun i => S m (f i)) = S m fun j => S n fun i => f i j
  | 0 => (S_zero m).symm
  | n + 1 => by rw [S, S_swap f m n, ← S_add]; rfl
theorem S_get {f : Nat → Nat} {n i : Nat} (h : i < n) : f i ≤ S n f := by
  induction n with
  | zero => omega
  | succ n ih =>
    rw [S]
    by_cases hi : i = n
    · subst hi; omega
    · have := ih (by omega); omega
theorem T_succ (n : Nat) (g : Nat → Nat → Nat) : T (n + 1) g = T n g + S n (g n) := rfl
theorem T_congr {n : Nat} {f g : Nat → Nat → Nat} (h : ∀ i k, k < i → i < n → f i k = g i k) : T n f = T n g := S_congr fun i hi => S_congr fun k hk => h i k hk hi
theorem T_add (n : Nat) (f g : Nat → Nat → Nat) : T n (fun i k => f i k + g i k) = T n f + T n g := by
  unfold T
  rw [← S_add]; exact S_congr fun i _ => S_add (f i) (g i) i
theorem T_const (k : Nat) : ∀ n, T n (fun _ _ => k) = c2' n * k
  | 0 => by simp [T, S, c2']
  | n + 1 => by rw [T_succ, T_const k n, S_const, c2', Nat.add_mul]
theorem T_swap (f : Nat → Nat → Nat → Nat) (m : Nat) : ∀ n, T n (fun i k => S m fun j => f j i k) = S m fun j => T n (f j)
  | 0 => (S_zero m).symm
  | n + 1 => by
    rw [T_succ, T_swap f m n, S_swap (fun k j => f j n k), ← S_add]; rfl
theorem T_and (p : Nat → Bool) : ∀ n, T n (fun i k => b2 (p i && p k)) = c2' (S n fun i => b2 (p i))
  | 0 => rfl
  | n + 1 => by
    rw [T_succ, T_and p n, S]
    cases hp : p n with
    | false =>
      have : (S n fun k => b2 (false && p k)) = 0 := by simp only [Bool.false_and]; exact S_zero n
      rw [this]; rfl
    | true =>
      simp only [Bool.true_and]
      show _ = c2' (_ + 1)
      rw [c2']
theorem c2'_two (n : Nat) : 2 * c2' n = n * (n - 1) := by
  induction n with
  | zero => rfl
  | succ n ih =>
    rw [c2', Nat.mul_add, ih]
    cases n with
    | zero => rfl
    | succ n => simp only [Nat.add_sub_cancel, Nat.succ_mul, Nat.mul_succ, Nat.mul_add, Nat.add_mul]; omega
theorem c2'_half (n : Nat) : n * (n - 1) / 2 = c2' n := by rw [← c2'_two]; omega
theorem S_countP {α : Type} (p : α → Bool) (z : α) (l : List α) : (S l.length fun m => b2 (p (gl z l m))) = l.countP p := by
  have h : ∀ k, k ≤ l.length → (S k fun m => b2 (p (gl z l m))) = (l.take k).countP p := by
    intro k
    induction k with
    | zero => intro _; simp [S]
    | succ k ih =>
      intro hk
      rw [S, ih (by omega), take_snoc (show k < l.length by omega), List.countP_append, gl_eq (show k < l.length by omega)]
      congr 1
      simp [b2, List.countP_cons]
  rw [h l.length (Nat.le_refl _), List.take_length]
theorem countP_one {α : Type} {p : α → Bool} : ∀ {l : List α}, l.Nodup → (∀ a ∈ l, ∀ b ∈ l, p a = true → p b = true → a = b) → l.countP p = b2 (l.any p)
  | [], _, _ => rfl
  | x :: l, hn, hu => by
    obtain ⟨h1, h2⟩ := List.nodup_cons.1 hn
    have ih := countP_one h2 fun a ha b hb => hu a (List.mem_cons_of_mem _ ha) b (List.mem_cons_of_mem _ hb)
    rw [List.countP_cons, ih, List.any_cons]
    cases hp : p x with
    | false => simp
    | true =>
      have : l.any p = false := by
        rw [List.any_eq_false]
        intro y hy hpy
        have := hu x List.mem_cons_self y (List.mem_cons_of_mem _ hy) hp hpy
        exact h1 (this ▸ hy)
      rw [this]; rfl
/-- a loop over i and all k below, that adds -/
theorem fx_tri {σ τ ρ : Type} {B : (σ → Opt ρ) → σ → Opt ρ} {C : (σ → Opt ρ) → (τ → Opt ρ) → τ → Opt ρ} (N : Nat) (st : Nat → Int → σ) (st2 : Nat → Nat → Int → τ) (g : Nat → Nat → Nat) (fin : Int → Opt ρ) (M : Int) (n : Nat) (hnN : N < n)
    (outer : ∀ self i a, i < N → 0 ≤ a → a ≤ M → B self (st i a) = fx (C self) n (st2 i 0 a))
    (step : ∀ self self2 i k a, i < N → k < i → 0 ≤ a → a + g i k ≤ M → C self self2 (st2 i k a) = self2 (st2 i (k + 1) (a + g i k)))
    (next : ∀ self self2 i a, i < N → 0 ≤ a → a ≤ M → C self self2 (st2 i i a) = self (st (i + 1) a))
    (stop : ∀ self a, 0 ≤ a → a ≤ M → B self (st N a) = fin a) (hM : (T N g : Int) ≤ M) : fx B n (st 0 0) = fin (T N g) := by
  have hs := fx_sum (B := B) N st (fun i => S i (g i)) fin M (fun self i a hi h0 h1 => by
    rw [outer self i a hi h0 (by omega)]
    have := fx_sum (B := C self) i (fun k a => st2 i k a) (g i) (fun a => self (st (i + 1) a)) M (fun self2 k a hk h0 h1 => step self self2 i k a hi hk h0 h1) (fun self2 a h0 h1 => next self self2 i a hi h0 h1) n 0 a (Nat.zero_le _) (by omega) h0 (by rw [S_range']; exact h1)
    rw [this, S_range']) stop n 0 0 (Nat.zero_le _) (by omega) (Int.le_refl _) (by rw [S_range']; simpa [T] using hM)
  rw [hs, S_range']
  simp [T]
end Go.Pl

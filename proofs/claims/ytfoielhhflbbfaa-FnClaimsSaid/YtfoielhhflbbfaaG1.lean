/- Plain laws: LQ, LR, L4L, LS, L7, LT. -/
import Derived.Test.YtfoielhhflbbfaaG0
set_option linter.unusedVariables false
set_option linter.unusedSimpArgs false
namespace Go.Pl
open Go Go.Tv Go.RowKit
set_option linter.unusedVariables false
theorem swap_perm {l : List Card} {i j : Nat} (hi : i < l.length) (hj : j < l.length) : ((l.set i l[j]).set j l[i]).Perm l := by
  have h := Array.swap_perm (xs := l.toArray) (i := i) (j := j) (by simpa using hi) (by simpa using hj)
  rw [Array.perm_iff_toList_perm] at h
  have e : (l.toArray.swap i j (by simpa using hi) (by simpa using hj)).toList = (l.set i l[j]).set j l[i] := by
    rw [Array.swap_def]; simp
  rwa [e] at h
def deck : List Card := (List.range 81).map fun (k : Nat) => cardAt (k : Int)
theorem deck_len : deck.length = 81 := by simp [deck]
theorem deck_isC {c : Card} (h : c ∈ deck) : isC c = true := by
  obtain ⟨k, hk, rfl⟩ := List.mem_map.1 h
  rw [List.mem_range] at hk
  exact cardAt_isC (by omega)
theorem deck_nodup : deck.Nodup := by
  unfold deck
  rw [List.Nodup, List.pairwise_map]
  refine List.Pairwise.imp_of_mem ?_ (List.nodup_range (n := 81))
  intro a b ha hb hne h
  rw [List.mem_range] at ha hb
  have := congrArg num h
  rw [num_cardAt (by omega), num_cardAt (by omega)] at this
  omega
def PiOK (s : Int × Int × List Card) : Prop := (0 ≤ s.1 ∧ s.1 ≤ 65535) ∧ (0 ≤ s.2.1 ∧ s.2.1 ≤ 80) ∧ s.2.2.Perm deck
theorem behind_ok (n : Nat) {r : Int} (h : 0 ≤ r ∧ r ≤ 65535) : ∃ r', s_l4Behind n r = some r' ∧ i_behind n r = some r' ∧ 0 ≤ r' ∧ r' ≤ 65535 := by
  refine ⟨Int.tmod (25173 * r + 13849) 65536, ?_, ?_, ?_, ?_⟩
  · unfold s_l4Behind; simp only [lt_eq]; rw [w64_id (x := 25173 * r) (by omega), w64_id (by omega)]
  · unfold i_behind; simp only [lt_eq]; rw [w64_id (x := 25173 * r) (by omega), w64_id (by omega)]
  · rw [Int.tmod_eq_emod_of_nonneg (by omega)]; omega
  · rw [Int.tmod_eq_emod_of_nonneg (by omega)]; omega
def swp (l : List Card) (i j : Nat) : List Card := (l.set i (gl ⟨0, 0, 0, 0⟩ l j)).set j (gl ⟨0, 0, 0, 0⟩ l i)
theorem swp_perm {l : List Card} {i j : Nat} (hi : i < l.length) (hj : j < l.length) : (swp l i j).Perm l := by
  unfold swp
  rw [gl_eq hi, gl_eq hj]
  exact swap_perm hi hj
theorem pile_steps (n : Nat) (g g' : Int × Int × List Card → Option (List Card)) {s : Int × Int × List Card} (h : PiOK s) (hp : 0 < s.2.1) :
    ∃ s', PiOK s' ∧ s'.2.1 = s.2.1 - 1 ∧ s_l4Pile_L1 n g s = g s' ∧ i_pile_L1 n g' s = g' s' := by
  obtain ⟨r, i, l⟩ := s
  obtain ⟨h1, h2, h3⟩ := h
  simp only [] at h1 h2 h3 hp
  obtain ⟨r', e1, e2, h4⟩ := behind_ok n h1
  have hl : l.length = 81 := by rw [h3.length_eq, deck_len]
  have q0 : Int.tdiv r' 8 = r' / 8 := Int.tdiv_eq_ediv_of_nonneg h4.1
  have q1 : Int.tmod (r' / 8) (i + 1) = r' / 8 % (i + 1) := Int.tmod_eq_emod_of_nonneg (by omega)
  have q2 : 0 ≤ r' / 8 % (i + 1) := Int.emod_nonneg _ (by omega)
  have q3 : r' / 8 % (i + 1) < i + 1 := Int.emod_lt_of_pos _ (by omega)
  obtain ⟨j, hj⟩ : ∃ j : Nat, r' / 8 % (i + 1) = j := ⟨(r' / 8 % (i + 1)).toNat, by omega⟩
  obtain ⟨k, hk⟩ : ∃ k : Nat, i = k := ⟨i.toNat, by omega⟩
  have i1 : inb i l.length = true := inb_pos (by omega) (by omega)
  have i2 : inb (j : Int) l.length = true := inb_pos (by omega) (by omega)
  have hne : (!decide (i + 1 = 0)) = true := by simp; omega
  have d1 : decide (0 < i) = true := decide_eq_true hp
  have d2 : decide (1 ≤ i) = true := decide_eq_true (by omega)
  have i3 : ∀ x : Card, inb (j : Int) (l.set k x).length = true := fun x => by rw [List.length_set]; exact i2
  refine ⟨(r', i - 1, swp l k j), ⟨h4, by show 0 ≤ i - 1 ∧ i - 1 ≤ 80; omega, (swp_perm (by omega) (by omega)).trans h3⟩, rfl, ?_, ?_⟩
  · unfold s_l4Pile_L1
    simp only [lt_eq, d1, br_true, e1, ob_some]
    rw [w64_id (x := i + 1) (by omega), ckb_pos hne, q0, w64_id (x := r' / 8) (by omega), q1, hj, i1, i2, ckb_true, ckb_true, ckb_true, w64_id (x := i - 1) (by omega)]
    rw [hk, toNat_cast, toNat_cast, i3, ckb_true]
    rfl
  · unfold i_pile_L1
    simp only [lt_eq, d2, br_true, e2, ob_some]
    rw [w64_id (x := i + 1) (by omega), ckb_pos hne, q0, w64_id (x := r' / 8) (by omega), q1, hj, i1, i2, ckb_true, ckb_true, ckb_true, w64_id (x := i - 1) (by omega)]
    rw [hk, toNat_cast, toNat_cast, i3, ckb_true]
    rfl
theorem pile_loop (n : Nat) : ∀ (k : Nat) (s : Int × Int × List Card), PiOK s → s.2.1.toNat < k → ∃ l, fx (s_l4Pile_L1 n) k s = some l ∧ fx (i_pile_L1 n) k s = some l ∧ l.Perm deck
  | 0, _, _, h => by omega
  | k + 1, s, h, hk => by
    rw [fx_succ, fx_succ]
    by_cases hp : 0 < s.2.1
    · obtain ⟨s', h', e, e1, e2⟩ := pile_steps n (fx (s_l4Pile_L1 n) k) (fx (i_pile_L1 n) k) h hp
      rw [e1, e2]
      exact pile_loop n k s' h' (by omega)
    · obtain ⟨r, i, l⟩ := s
      have hp : ¬ 0 < i := hp
      have d1 : decide (0 < i) = false := decide_eq_false hp
      have d2 : decide (1 ≤ i) = false := decide_eq_false (by omega)
      refine ⟨l, ?_, ?_, h.2.2⟩
      · unfold s_l4Pile_L1; simp only [d1, br_false]
      · unfold i_pile_L1; simp only [d2, br_false]
theorem range'_deck : (List.range' 0 (81 - 0)).flatMap (fun k => [cardAt ((k : Nat) : Int)]) = deck := by
  unfold deck
  rw [List.range_eq_range', List.map_eq_flatMap]
theorem pile_ok {n : Nat} (hn : BIG ≤ n) {r : Int} (h : 0 ≤ r ∧ r ≤ 65535) : ∃ l, s_l4Pile n r = some l ∧ i_pile n r = some l ∧ l.Perm deck := by
  obtain ⟨l, e1, e2, hp⟩ := pile_loop n n (r, 80, deck) ⟨h, by show (0 : Int) ≤ 80 ∧ (80 : Int) ≤ 80; omega, .refl _⟩ (big_gt hn (by show (80 : Int).toNat < _; decide))
  refine ⟨l, ?_, ?_, hp⟩
  · unfold s_l4Pile
    have := fx_app (B := s_l4Pile_L2 n) 81 (fun i a => (r, (i : Int), a)) (fun k => [cardAt ((k : Nat) : Int)]) (fun a => fx (s_l4Pile_L1 n) n (r, 80, a)) 100 (fun self i a hi hM => ?_) (fun self a => by
      simp only [s_l4Pile_L2]; rfl) n 0 [] (by omega) (big_gt hn (by omega)) (by rw [range'_deck, deck_len]; simp)
    · refine Eq.trans this ?_
      rw [range'_deck, List.nil_append]; exact e1
    · simp only [s_l4Pile_L2, s_l2At_eq n (r := (i : Int)) (by omega), lt_eq, ob_some]
      rw [show decide ((i : Int) < 81) = true from decide_eq_true (by omega), br_true, ckb_pos (apok_ok (by simp at hM; omega) (by simp at hM; omega)), w64_succ (by omega)]
  · unfold i_pile
    have := fx_app (B := i_pile_L2 n) 81 (fun i a => (r, (i : Int), a)) (fun k => [cardAt ((k : Nat) : Int)]) (fun a => fx (i_pile_L1 n) n (r, 80, a)) 100 (fun self i a hi hM => ?_) (fun self a => by
      simp only [i_pile_L2]; rfl) n 0 [] (by omega) (big_gt hn (by omega)) (by rw [range'_deck, deck_len]; simp)
    · refine Eq.trans this ?_
      rw [range'_deck, List.nil_append]; exact e2
    · simp only [i_pile_L2, i_card_eq n (r := (i : Int)) (by omega), lt_eq, ob_some]
      rw [show decide ((i : Int) < 81) = true from decide_eq_true (by omega), br_true, ckb_pos (apok_ok (by simp at hM; omega) (by simp at hM; omega)), w64_succ (by omega)]
theorem pile_facts {l : List Card} (h : l.Perm deck) : l.length = 81 ∧ l.Nodup ∧ ∀ c, c ∈ l → isC c = true :=
  ⟨by rw [h.length_eq, deck_len], h.nodup_iff.2 deck_nodup, fun c hc => deck_isC (h.mem_iff.1 hc)⟩
end Go.Pl
namespace Go.Pl
open Go Go.Tv Go.RowKit
set_option linter.unusedVariables false
abbrev Deal := Int × (Int × List Card)
theorem has_any (l : List Card) (c : Card) : (l.any fun x => decide (x = c)) = l.contains c := by
  induction l with
  | nil => rfl
  | cons a t ih =>
    rw [List.any_cons, List.contains_cons, ih]
    congr 1
    by_cases h : a = c
    · rw [h]; simp
    · rw [decide_eq_false h]; exact (beq_eq_false_iff_ne.2 (Ne.symm h)).symm
theorem s_l2Has_eq {n : Nat} (hn : BIG ≤ n) {h : List Card} (hl : h.length ≤ 9223372036854775807) (c : Card) : s_l2Has n h c = some (h.contains c) := by
  unfold s_l2Has
  rw [s_l2Place_eq hn hl, ob_some]
  have e : decide (0 ≤ place h c) = (h.findIdx? fun x => decide (x = c)).isSome := by
    unfold place placeI
    cases hq : h.findIdx? fun x => decide (x = c) with
    | none => rfl
    | some i => exact decide_eq_true (by simp only []; omega)
  rw [e, findIdx?_any, has_any]
theorem slices_Index_eq {n : Nat} (hn : BIG ≤ n) {h : List Card} (hl : h.length ≤ 9223372036854775807) (c : Card) : slices_Index_SA4_A4_ n h c = some (place h c) := by
  unfold slices_Index_SA4_A4_
  have := fx_find (B := slices_Index_SA4_A4__L1 n) h (fun i => (h, (h.length : Int), (i : Int), c)) (fun x => decide (x = c)) (fun i => some (i : Int)) (some (-1)) (fun self i hi => ?_) (fun self => ?_) n (big_gt hn (by omega))
  · refine Eq.trans this ?_
    unfold place placeI
    cases h.findIdx? fun x => decide (x = c) <;> rfl
  · simp only [slices_Index_SA4_A4__L1, lt_eq]
    rw [show decide ((i : Int) < (h.length : Int)) = true from decide_eq_true (by omega), br_true, ckb_pos (inb_ok hi), toNat_cast, gl_eq hi, w64_succ (by omega), eqd]
    by_cases hc : h[i] = c
    · rw [if_pos (by simp [hc])]; simp [hc]
    · rw [if_neg (by simp [hc])]
      rw [show decide (c = h[i]) = false from decide_eq_false (fun e => hc e.symm), br_false]
  · simp only [slices_Index_SA4_A4__L1]
    rw [show decide ((h.length : Int) < (h.length : Int)) = false from decide_eq_false (by omega), br_false]
theorem i_has_eq {n : Nat} (hn : BIG ≤ n) {h : List Card} (hl : h.length ≤ 9223372036854775807) (c : Card) : i_has n h c = some (h.contains c) := by
  rw [← s_l2Has_eq hn hl]
  unfold i_has slices_Contains_SA4_A4_ s_l2Has
  rw [slices_Index_eq hn hl, s_l2Place_eq hn hl]
  rfl
theorem len_le {l : List Card} : ∀ {m : List Card}, l.Nodup → (∀ c, c ∈ l → c ∈ m) → l.length ≤ m.length := by
  induction l with
  | nil => intro m _ _; exact Nat.zero_le _
  | cons a t ih =>
    intro m hn hs
    have ha := hs a (by simp)
    rw [List.nodup_cons] at hn
    have := ih (m := m.erase a) hn.2 fun c hc => by
      have hne : c ≠ a := fun e => hn.1 (e ▸ hc)
      exact (List.mem_erase_of_ne hne).2 (hs c (by simp [hc]))
    rw [List.length_erase_of_mem ha] at this
    have := List.length_pos_of_mem ha
    rw [List.length_cons]; omega
def okAt (p h : List Card) (k : Nat) : Bool := p.contains (gl ⟨0, 0, 0, 0⟩ h k) && !(h.take k).contains (gl ⟨0, 0, 0, 0⟩ h k)
def okFrom (p h : List Card) (k : Nat) : Bool := (List.range' k (h.length - k)).all (okAt p h)
theorem okFrom_step {p h : List Card} {k : Nat} (hk : k < h.length) : okFrom p h k = (okAt p h k && okFrom p h (k + 1)) := by
  unfold okFrom
  rw [range'_cons hk, List.all_cons]
theorem okFrom_end {p h : List Card} : okFrom p h h.length = true := by unfold okFrom; rw [range'_nil (Nat.le_refl _)]; rfl
theorem okFrom_spec {p h : List Card} (ho : okFrom p h 0 = true) : h.Nodup ∧ ∀ c, c ∈ h → c ∈ p := by
  have hk : ∀ k, (hk : k < h.length) → p.contains h[k] = true ∧ (h.take k).contains h[k] = false := fun k hk => by
    have := List.all_eq_true.1 ho k (by rw [List.mem_range'_1]; omega)
    unfold okAt at this
    rw [gl_eq hk, Bool.and_eq_true, Bool.not_eq_true'] at this
    exact this
  refine ⟨?_, fun c hc => ?_⟩
  · rw [List.Nodup, List.pairwise_iff_getElem]
    intro i j hi hj hij e
    have := (hk j hj).2
    rw [← e] at this
    have hm : h[i] ∈ h.take j := by
      rw [List.mem_take_iff_getElem]
      exact ⟨i, by omega, rfl⟩
    rw [List.contains_iff_mem.2 hm] at this
    cases this
  · obtain ⟨k, hkl, rfl⟩ := List.mem_iff_getElem.1 hc
    exact List.contains_iff_mem.1 (hk k hkl).1
def dealB (p : List Card) (d : Deal) : Bool := okFrom (p.take d.2.1.toNat) d.2.2 0
theorem sub0 {α : Type} (l : List α) (k : Nat) : sub l 0 k = l.take k := by unfold sub; rw [List.drop_zero, Nat.sub_zero]
theorem s_dealL {n : Nat} (hn : BIG ≤ n) {p : List Card} (hp : p.length = 81) {d : Deal} (hl0 : 0 ≤ d.2.1 ∧ d.2.1 ≤ 81) (hlen : d.2.2.length ≤ 2000000) :
    fx (s_l4Deal_L1 n) n (0, (d.2.1.toNat : Int), 0, d, p) = some (dealB p d) := by
  have := fx_cnt (B := s_l4Deal_L1 n) d.2.2.length (fun i => ((0 : Int), (d.2.1.toNat : Int), (i : Int), d, p)) (fun _ => True) (fun i => some (okFrom (p.take d.2.1.toNat) d.2.2 i)) (fun self i hi _ ih => ?_) n 0 (by omega) trivial (big_gt hn (by omega))
  · exact this
  · simp only [s_l4Deal_L1, lt_eq]
    by_cases h : i < d.2.2.length
    · rw [show decide ((i : Int) < (d.2.2.length : Int)) = true from decide_eq_true (by omega), br_true, ckb_pos (inb_ok h)]
      have e0 : sub p (0 : Int).toNat ((0 : Int).toNat + ((d.2.1.toNat : Nat) : Int).toNat) = p.take d.2.1.toNat := by
        rw [toNat_cast, show (0 : Int).toNat = 0 from rfl, Nat.zero_add, sub0]
      rw [e0, s_l2Has_eq hn (by rw [List.length_take]; omega), ob_some, toNat_cast, ckb_pos (slb_ok (by omega) (by omega) (by omega)), ckb_pos (inb_ok h)]
      rw [sub0, s_l2Has_eq hn (by rw [List.length_take]; omega), ob_some, br_some, ob_some, w64_succ (by omega)]
      have := ih h trivial
      rw [okFrom_step h]
      unfold okAt
      cases h1 : (p.take d.2.1.toNat).contains (gl ⟨0, 0, 0, 0⟩ d.2.2 i) with
      | false => simp
      | true =>
        cases h2 : (d.2.2.take i).contains (gl ⟨0, 0, 0, 0⟩ d.2.2 i) with
        | true => simp
        | false => simpa using this
    · have : i = d.2.2.length := by omega
      subst this
      rw [show decide ((d.2.2.length : Int) < (d.2.2.length : Int)) = false from decide_eq_false (by omega), br_false, okFrom_end]
theorem i_dealL {n : Nat} (hn : BIG ≤ n) {p : List Card} (hp : p.length = 81) {d : Deal} (hl0 : 0 ≤ d.2.1 ∧ d.2.1 ≤ 81) (hlen : d.2.2.length ≤ 2000000) :
    fx (i_IsDeal_L1 n) n (0, (d.2.1.toNat : Int), d.2.2, (d.2.2.length : Int), 0, d, p) = some (dealB p d) := by
  have := fx_cnt (B := i_IsDeal_L1 n) d.2.2.length (fun i => ((0 : Int), (d.2.1.toNat : Int), d.2.2, (d.2.2.length : Int), (i : Int), d, p)) (fun _ => True) (fun i => some (okFrom (p.take d.2.1.toNat) d.2.2 i)) (fun self i hi _ ih => ?_) n 0 (by omega) trivial (big_gt hn (by omega))
  · exact this
  · simp only [i_IsDeal_L1, lt_eq]
    by_cases h : i < d.2.2.length
    · rw [show decide ((i : Int) < (d.2.2.length : Int)) = true from decide_eq_true (by omega), br_true, ckb_pos (inb_ok h)]
      have e0 : sub p (0 : Int).toNat ((0 : Int).toNat + ((d.2.1.toNat : Nat) : Int).toNat) = p.take d.2.1.toNat := by
        rw [toNat_cast, show (0 : Int).toNat = 0 from rfl, Nat.zero_add, sub0]
      rw [e0, i_has_eq hn (by rw [List.length_take]; omega), ob_some, toNat_cast, ckb_pos (slb_ok (by omega) (by omega) (by omega))]
      rw [sub0, i_has_eq hn (by rw [List.length_take]; omega), ob_some, br_some, ob_some, w64_succ (by omega)]
      have := ih h trivial
      rw [okFrom_step h]
      unfold okAt
      cases h1 : (p.take d.2.1.toNat).contains (gl ⟨0, 0, 0, 0⟩ d.2.2 i) with
      | false => simp
      | true =>
        cases h2 : (d.2.2.take i).contains (gl ⟨0, 0, 0, 0⟩ d.2.2 i) with
        | true => simp
        | false => simpa using this
    · have : i = d.2.2.length := by omega
      subst this
      rw [show decide ((d.2.2.length : Int) < (d.2.2.length : Int)) = false from decide_eq_false (by omega), br_false, okFrom_end]
structure DealOK (p : List Card) (d : Deal) : Prop where
  seed : 0 ≤ d.1 ∧ d.1 ≤ 65535
  laid : 0 ≤ d.2.1 ∧ d.2.1 ≤ 81
  nodup : d.2.2.Nodup
  mem : ∀ c, c ∈ d.2.2 → c ∈ p.take d.2.1.toNat
theorem isDeal_eq {n : Nat} (hn : BIG ≤ n) (d : Deal) (hlen : d.2.2.length ≤ 2000000) :
    ∃ b, s_l4Deal n d = some b ∧ i_IsDeal n d = some b ∧ (b = true → ∃ p, s_l4Pile n d.1 = some p ∧ i_pile n d.1 = some p ∧ p.Perm deck ∧ DealOK p d) := by
  by_cases hs : 0 ≤ d.1 ∧ d.1 ≤ 65535
  · by_cases hl : 0 ≤ d.2.1 ∧ d.2.1 ≤ 81
    · obtain ⟨p, e1, e2, hp⟩ := pile_ok hn hs
      obtain ⟨hp81, _, _⟩ := pile_facts hp
      have sl : slb 0 d.2.1 p.length = true := slb_ok (by omega) (by omega) (by omega)
      have ew : (w64 (d.2.1 - 0)).toNat = d.2.1.toNat := by rw [w64_id (by omega), Int.sub_zero]
      have hspec : dealB p d = true → DealOK p d := fun h => ⟨hs, hl, (okFrom_spec h).1, (okFrom_spec h).2⟩
      refine ⟨decide (d.2.2.length ≤ 81) && dealB p d, ?_, ?_, fun h => ?_⟩
      · unfold s_l4Deal s_l4Seed
        simp only [s_l1In_eq, ob_some, hs, hl, and_self, decide_true, Bool.not_true, br_false, e1]
        by_cases h81 : d.2.2.length ≤ 81
        · rw [show decide ((81 : Int) < (d.2.2.length : Int)) = false from decide_eq_false (by omega), br_false, sl, ckb_true, ew, s_dealL hn hp81 hl hlen]
          simp [h81]
        · rw [show decide ((81 : Int) < (d.2.2.length : Int)) = true from decide_eq_true (by omega), br_true]
          simp [h81]
      · unfold i_IsDeal i_isSeed
        simp only [i_within_eq, ob_some, hs, hl, and_self, decide_true, Bool.not_true, br_false, e2]
        by_cases h81 : d.2.1 < (d.2.2.length : Int)
        · rw [show decide (d.2.1 < (d.2.2.length : Int)) = true from decide_eq_true h81, br_true]
          have : dealB p d = false := by
            cases hb : dealB p d with
            | false => rfl
            | true =>
              obtain ⟨_, _, h3, h4⟩ := hspec hb
              have := len_le h3 h4
              rw [List.length_take] at this
              omega
          rw [this, Bool.and_false]
        · rw [show decide (d.2.1 < (d.2.2.length : Int)) = false from decide_eq_false h81, br_false, sl, ckb_true, ew, i_dealL hn hp81 hl hlen]
          have : d.2.2.length ≤ 81 := by omega
          simp [this]
      · rw [Bool.and_eq_true] at h
        exact ⟨p, e1, e2, hp, hspec h.2⟩
    · refine ⟨false, ?_, ?_, fun h => by cases h⟩
      · unfold s_l4Deal s_l4Seed
        simp only [s_l1In_eq, ob_some, hs, and_self, decide_true, Bool.not_true, br_false, decide_eq_false hl, Bool.not_false, br_true]
      · unfold i_IsDeal i_isSeed
        simp only [i_within_eq, ob_some, hs, and_self, decide_true, Bool.not_true, br_false, decide_eq_false hl, Bool.not_false, br_true]
  · refine ⟨false, ?_, ?_, fun h => by cases h⟩
    · unfold s_l4Deal s_l4Seed
      simp only [s_l1In_eq, ob_some, decide_eq_false hs, Bool.not_false, br_true]
    · unfold i_IsDeal i_isSeed
      simp only [i_within_eq, ob_some, decide_eq_false hs, Bool.not_false, br_true]
end Go.Pl
namespace Go.Pl
open Go Go.Tv Go.RowKit
set_option linter.unusedVariables false
def z4 : Card := ⟨0, 0, 0, 0⟩
def lnAt (s : List Card) (i j k : Nat) : Bool := lineB (gl z4 s i) (gl z4 s j) (gl z4 s k)
def l1 (s : List Card) (i j k : Nat) : List (V3 Int) := if lnAt s i j k = true then [⟨i, j, k⟩] else []
def l2 (s : List Card) (i j : Nat) : List (V3 Int) := (List.range' (j + 1) (s.length - (j + 1))).flatMap (l1 s i j)
def l3 (s : List Card) (i : Nat) : List (V3 Int) := (List.range' (i + 1) (s.length - (i + 1))).flatMap (l2 s i)
def lns (s : List Card) : List (V3 Int) := (List.range' 0 (s.length - 0)).flatMap (l3 s)
theorem l1_len {s : List Card} {i j k : Nat} : (l1 s i j k).length ≤ 1 := by unfold l1; split <;> simp
theorem l2_len {s : List Card} {i j : Nat} : (l2 s i j).length ≤ s.length := by
  have := flen (l := List.range' (j + 1) (s.length - (j + 1))) (f := l1 s i j) (M := 1) fun _ _ => l1_len
  rw [List.length_range', Nat.mul_one] at this
  unfold l2; omega
theorem l3_len {s : List Card} {i : Nat} : (l3 s i).length ≤ s.length * s.length := by
  have := flen (l := List.range' (i + 1) (s.length - (i + 1))) (f := l2 s i) (M := s.length) fun _ _ => l2_len
  unfold l3
  refine Nat.le_trans this (Nat.mul_le_mul_right _ ?_)
  rw [List.length_range']; omega
theorem lns_len {s : List Card} : (lns s).length ≤ s.length * (s.length * s.length) := by
  have := flen (l := List.range' 0 (s.length - 0)) (f := l3 s) (M := s.length * s.length) fun _ _ => l3_len
  rw [List.length_range', Nat.sub_zero] at this
  unfold lns; exact this
theorem gl_isC {s : List Card} (hs : ∀ c, c ∈ s → isC c = true) {i : Nat} (h : i < s.length) : isC (gl z4 s i) = true := by
  rw [gl_eq h]; exact hs _ (List.getElem_mem h)
theorem s_l4Lines_eq {n : Nat} (hn : BIG ≤ n) {s : List Card} (hl : s.length ≤ 81) (hs : ∀ c, c ∈ s → isC c = true) : s_l4Lines n s = some (lns s) := by
  unfold s_l4Lines
  have b3 : s.length * (s.length * s.length) ≤ 81 * (81 * 81) := Nat.mul_le_mul hl (Nat.mul_le_mul hl hl)
  have h3 := lns_len (s := s)
  have e : ∀ i : Nat, i < s.length → decide ((i : Int) < (s.length : Int)) = true := fun i h => decide_eq_true (by omega)
  have e' : decide ((s.length : Int) < (s.length : Int)) = false := decide_eq_false (by omega)
  have := fx_app (B := s_l4Lines_L3 n) s.length (fun i a => (s, (i : Int), a)) (l3 s) some 1000000 (fun self i a hi hM => ?_) (fun self a => by simp only [s_l4Lines_L3, e', br_false]) n 0 [] (Nat.zero_le _) (big_gt hn (by omega)) (by unfold lns at h3; simp only [List.length_nil]; omega)
  · simpa [lns] using this
  · simp only [s_l4Lines_L3, e i hi, br_true, lt_eq]
    rw [w64_succ (by omega)]
    have := fx_app (B := s_l4Lines_L2 n self) s.length (fun j a => (s, (i : Int), (j : Int), a)) (l2 s i) (fun a => self (s, ((i + 1 : Nat) : Int), a)) 1000000 (fun self2 j a hj hM2 => ?_) (fun self2 a => by
      simp only [s_l4Lines_L2, e', br_false, lt_eq]; rw [w64_succ (by omega)]) n (i + 1) a (by omega) (big_gt hn (by omega)) (by unfold l3 at hM; exact hM)
    · exact this
    · simp only [s_l4Lines_L2, e j hj, br_true, lt_eq]
      rw [w64_succ (by omega)]
      have := fx_app (B := s_l4Lines_L1 n self2) s.length (fun k a => (s, (i : Int), (j : Int), (k : Int), a)) (l1 s i j) (fun a => self2 (s, (i : Int), ((j + 1 : Nat) : Int), a)) 1000000 (fun self3 k a hk hM3 => ?_) (fun self3 a => by
        simp only [s_l4Lines_L1, e', br_false, lt_eq]; rw [w64_succ (by omega)]) n (j + 1) a (by omega) (big_gt hn (by omega)) (by unfold l2 at hM2; exact hM2)
      · exact this
      · simp only [s_l4Lines_L1, e k hk, br_true, inb_ok hi, inb_ok hj, inb_ok hk, ckb_true, toNat_cast, lt_eq]
        have hln := s_l2Line_eq hn (gl z4 s k) (gl_isC hs hi) (gl_isC hs hj)
        unfold z4 at hln
        rw [hln, w64_succ (by omega)]
        have e5 : lineB (gl z4 s i) (gl z4 s j) (gl z4 s k) = lnAt s i j k := rfl
        unfold z4 at e5
        simp only [ob_some, e5]
        unfold l1 at hM3 ⊢
        cases hb : lnAt s i j k with
        | false => simp
        | true =>
          rw [hb] at hM3
          simp only [if_true, List.length_singleton] at hM3
          simp only [br_true, if_true]
          rw [apok_ok (by omega) (by omega)]; rfl
theorem flatMap_one {α : Type} (f : Nat → α) (q : Nat) : ∀ (m a : Nat), (List.range' a m).flatMap (fun k => if k = q then [f k] else []) = if a ≤ q ∧ q < a + m then [f q] else []
  | 0, a => by rw [if_neg (by omega)]; rfl
  | m + 1, a => by
    rw [List.range'_succ, List.flatMap_cons, flatMap_one f q m (a + 1)]
    by_cases h : a = q
    · rw [if_pos h, if_neg (by omega), if_pos (by omega), h]; rfl
    · rw [if_neg h, List.nil_append]
      by_cases h2 : a ≤ q ∧ q < a + (m + 1)
      · rw [if_pos h2, if_pos (by omega)]
      · rw [if_neg h2, if_neg (by omega)]
theorem l2_ln1 {h : List Card} (hnd : h.Nodup) {i j : Nat} (hij : i < j) (hj : j < h.length) : l2 h i j = ln1 h i j := by
  have hi : i < h.length := by omega
  have hne : gl z4 h i ≠ gl z4 h j := by
    rw [gl_eq hi, gl_eq hj]
    exact fun e => absurd ((List.getElem_inj hnd).1 e) (by omega)
  unfold l2 ln1
  show _ = if (j : Int) < place h (third (gl z4 h i) (gl z4 h j)) then _ else _
  by_cases hq : ∃ q : Nat, h[q]? = some (third (gl z4 h i) (gl z4 h j))
  · obtain ⟨q, hq⟩ := hq
    have hp := place_of hnd hq
    have hql : q < h.length := (List.getElem?_eq_some_iff.1 hq).1
    have hqe : gl z4 h q = third (gl z4 h i) (gl z4 h j) := by rw [gl_eq hql]; exact (List.getElem?_eq_some_iff.1 hq).2
    have e : ∀ k, k ∈ List.range' (j + 1) (h.length - (j + 1)) → l1 h i j k = if k = q then [(⟨i, j, k⟩ : V3 Int)] else [] := fun k hk => by
      rw [List.mem_range'_1] at hk
      have hkl : k < h.length := by omega
      unfold l1 lnAt lineB
      by_cases hkq : k = q
      · subst hkq; simp [hne, hqe]
      · have : third (gl z4 h i) (gl z4 h j) ≠ gl z4 h k := by
          rw [← hqe, gl_eq hql, gl_eq hkl]
          exact fun e => hkq ((List.getElem_inj hnd).1 e).symm
        simp [hkq, this]
    rw [flatMap_congr' e, flatMap_one, hp]
    by_cases h2 : j < q
    · rw [if_pos (by omega), if_pos (by omega)]
      show _ = [(⟨(i : Int), (j : Int), place h (third (gl z4 h i) (gl z4 h j))⟩ : V3 Int)]
      rw [hp]
    · rw [if_neg (by omega), if_neg (by omega)]
  · have hp := place_none fun q hq2 => hq ⟨q, hq2⟩
    rw [hp, if_neg (by omega)]
    rw [List.flatMap_eq_nil_iff]
    intro k hk
    rw [List.mem_range'_1] at hk
    have hkl : k < h.length := by omega
    unfold l1 lnAt lineB
    have : third (gl z4 h i) (gl z4 h j) ≠ gl z4 h k := by
      rw [gl_eq (d := z4) hkl]
      exact fun e => hq ⟨k, by rw [List.getElem?_eq_getElem hkl, ← e]⟩
    simp [this]
theorem lns_eq {h : List Card} (hnd : h.Nodup) : lns h = linesOf h := by
  unfold lns linesOf
  refine flatMap_congr' fun i hi => ?_
  unfold l3 ln2
  refine flatMap_congr' fun j hj => ?_
  rw [List.mem_range'_1] at hi hj
  exact l2_ln1 hnd (by omega) (by omega)
end Go.Pl
namespace Go.Pl
open Go Go.Tv Go.RowKit
set_option linter.unusedVariables false
def layD (p : List Card) (d : Deal) (k : Int) : Deal := (d.1, (if 81 < d.2.1 + k then 81 else d.2.1 + k), d.2.2 ++ sub p d.2.1.toNat (if 81 < d.2.1 + k then 81 else d.2.1 + k).toNat)
theorem sub_len {α : Type} (l : List α) (a b : Nat) : (sub l a b).length ≤ b - a := by unfold sub; rw [List.length_take]; omega
theorem s_l4Lay_eq {n : Nat} {p : List Card} {d : Deal} (hp : s_l4Pile n d.1 = some p) (h81 : p.length = 81) (hl : 0 ≤ d.2.1 ∧ d.2.1 ≤ 81) (hlen : d.2.2.length ≤ 81) {k : Int} (hk : 0 ≤ k ∧ k ≤ 81) :
    s_l4Lay n d k = some (layD p d k) := by
  unfold s_l4Lay layD
  rw [hp, ob_some, lt_eq, w64_id (by omega)]
  unfold s_l1Least
  rw [br_some, ob_some, s_l2Own_eq (by omega), ob_some]
  have e : (if decide ((81 : Int) < d.2.1 + k) = true then (81 : Int) else d.2.1 + k) = if 81 < d.2.1 + k then 81 else d.2.1 + k := by by_cases h : (81 : Int) < d.2.1 + k <;> simp [h]
  rw [e]
  generalize hr : (if 81 < d.2.1 + k then (81 : Int) else d.2.1 + k) = r
  have hr2 : d.2.1 ≤ r ∧ r ≤ 81 := by split at hr <;> omega
  have e2 : d.2.1.toNat + (w64 (r - d.2.1)).toNat = r.toNat := by rw [w64_id (by omega)]; omega
  rw [e2, ckb_pos (slb_ok (by omega) (by omega) (by omega))]
  have := sub_len p d.2.1.toNat r.toNat
  rw [ckb_pos (apok_ok (by omega) (by omega))]
theorem grow_eq (n : Nat) {k : Nat} (h : k ≤ 100000) : slices_Grow_SA4_A4_ n (k : Int) = some [] := by
  unfold slices_Grow_SA4_A4_
  simp only [lt_eq]
  rw [show decide ((k : Int) < 0) = false from decide_eq_false (by omega), br_false, show w64 (0 - 0) = 0 by decide, Int.sub_zero, w64_id (by omega)]
  by_cases h : (0 : Int) < (k : Int)
  · rw [decide_eq_true h, br_true, toNat_cast, List.length_replicate]
    have : cand (nneg (k : Int)) (apok 32 k) = true := by
      rw [apok_ok (by omega) (by omega)]
      unfold nneg
      rw [decide_eq_true (by omega)]; rfl
    rw [ckb_pos this, ckb_pos (slb_ok (by omega) (by omega) (by omega))]
    unfold sub; simp
  · rw [decide_eq_false h, br_false]
theorem concat2_step (n : Nat) (go : (List (List Card)) × Int × (List (List Card)) × Int × Int → Option (List Card)) (ls : List (List Card)) {k t : Nat} (hk : k < ls.length) (hl : ls.length ≤ 100) (ht : t + ls[k].length ≤ 100000) :
    slices_Concat_SA4_A4__L2 n go (ls, (t : Int), ls, (ls.length : Int), (k : Int)) = go (ls, ((t + ls[k].length : Nat) : Int), ls, (ls.length : Int), ((k + 1 : Nat) : Int)) := by
  unfold slices_Concat_SA4_A4__L2
  simp only [lt_eq]
  rw [show decide ((k : Int) < (ls.length : Int)) = true from decide_eq_true (by omega), br_true, ckb_pos (inb_ok hk), toNat_cast, gl_eq hk, w64_id (x := (t : Int) + (ls[k].length : Int)) (by omega), show decide ((t : Int) + (ls[k].length : Int) < 0) = false from decide_eq_false (by omega), br_false, w64_succ (by omega)]
  rfl
theorem concat2_end (n : Nat) (go : (List (List Card)) × Int × (List (List Card)) × Int × Int → Option (List Card)) (ls : List (List Card)) {t : Nat} (ht : t ≤ 100000) :
    slices_Concat_SA4_A4__L2 n go (ls, (t : Int), ls, (ls.length : Int), (ls.length : Int)) = fx (slices_Concat_SA4_A4__L1 n) n (ls, (ls.length : Int), ((0 : Nat) : Int), []) := by
  unfold slices_Concat_SA4_A4__L2
  simp only []
  rw [show decide ((ls.length : Int) < (ls.length : Int)) = false from decide_eq_false (by omega), br_false, grow_eq n ht, ob_some]
  rfl
theorem concat1_step (n : Nat) (go : (List (List Card)) × Int × Int × List Card → Option (List Card)) (ls : List (List Card)) {k : Nat} (a : List Card) (hk : k < ls.length) (hl : ls.length ≤ 100) (ht : a.length + ls[k].length ≤ 100000) :
    slices_Concat_SA4_A4__L1 n go (ls, (ls.length : Int), (k : Int), a) = go (ls, (ls.length : Int), ((k + 1 : Nat) : Int), a ++ ls[k]) := by
  unfold slices_Concat_SA4_A4__L1
  simp only [lt_eq]
  rw [show decide ((k : Int) < (ls.length : Int)) = true from decide_eq_true (by omega), br_true, ckb_pos (inb_ok hk), toNat_cast, gl_eq hk, ckb_pos (apok_ok (by omega) (by omega)), w64_succ (by omega)]
theorem concat1_end (n : Nat) (go : (List (List Card)) × Int × Int × List Card → Option (List Card)) (ls : List (List Card)) (a : List Card) :
    slices_Concat_SA4_A4__L1 n go (ls, (ls.length : Int), (ls.length : Int), a) = some a := by
  unfold slices_Concat_SA4_A4__L1
  simp only []
  rw [show decide ((ls.length : Int) < (ls.length : Int)) = false from decide_eq_false (by omega), br_false]
theorem slices_Concat2 {n : Nat} (hn : BIG ≤ n) {a b : List Card} (ha : a.length ≤ 1000) (hb : b.length ≤ 1000) : slices_Concat_SA4_A4_ n [a, b] = some (a ++ b) := by
  obtain ⟨m, rfl⟩ : ∃ m, n = m + 5 := ⟨n - 5, by unfold BIG at hn; omega⟩
  unfold slices_Concat_SA4_A4_
  have e1 := concat2_step (m + 5) (fx (slices_Concat_SA4_A4__L2 (m + 5)) (m + 4)) [a, b] (k := 0) (t := 0) (by show 0 < 2; omega) (by show 2 ≤ 100; omega) (by show 0 + a.length ≤ 100000; omega)
  have e2 := concat2_step (m + 5) (fx (slices_Concat_SA4_A4__L2 (m + 5)) (m + 3)) [a, b] (k := 1) (t := 0 + a.length) (by show 1 < 2; omega) (by show 2 ≤ 100; omega) (by show 0 + a.length + b.length ≤ 100000; omega)
  have e3 := concat2_end (m + 5) (fx (slices_Concat_SA4_A4__L2 (m + 5)) (m + 2)) [a, b] (t := 0 + a.length + b.length) (by omega)
  have e4 := concat1_step (m + 5) (fx (slices_Concat_SA4_A4__L1 (m + 5)) (m + 4)) [a, b] (k := 0) [] (by show 0 < 2; omega) (by show 2 ≤ 100; omega) (by show 0 + a.length ≤ 100000; omega)
  have e5 := concat1_step (m + 5) (fx (slices_Concat_SA4_A4__L1 (m + 5)) (m + 3)) [a, b] (k := 1) ([] ++ a) (by show 1 < 2; omega) (by show 2 ≤ 100; omega) (by show ([] ++ a).length + b.length ≤ 100000; rw [List.nil_append]; omega)
  have e6 := concat1_end (m + 5) (fx (slices_Concat_SA4_A4__L1 (m + 5)) (m + 2)) [a, b] ([] ++ a ++ b)
  refine Eq.trans (fx_succ _ _ _) (Eq.trans e1 (Eq.trans (fx_succ _ _ _) (Eq.trans e2 (Eq.trans (fx_succ _ _ _) (Eq.trans e3 ?_)))))
  refine Eq.trans (fx_succ _ _ _) (Eq.trans e4 (Eq.trans (fx_succ _ _ _) (Eq.trans e5 (Eq.trans (fx_succ _ _ _) e6))))
theorem i_lay_eq {n : Nat} (hn : BIG ≤ n) {p : List Card} {d : Deal} (hp : i_pile n d.1 = some p) (h81 : p.length = 81) (hl : 0 ≤ d.2.1 ∧ d.2.1 ≤ 81) (hlen : d.2.2.length ≤ 81) {k : Int} (hk : 0 ≤ k ∧ k ≤ 81) :
    _impl_Deal__lay n d k = some (layD p d k) := by
  unfold _impl_Deal__lay layD
  rw [hp]
  simp only [lt_eq, ob_some]
  rw [w64_id (x := 81 - d.2.1) (by omega)]
  have e : d.2.1 + mnI k (81 - d.2.1) = if 81 < d.2.1 + k then 81 else d.2.1 + k := by unfold mnI; split <;> split <;> omega
  rw [e]
  generalize hr : (if 81 < d.2.1 + k then (81 : Int) else d.2.1 + k) = r
  have hr2 : d.2.1 ≤ r ∧ r ≤ 81 := by split at hr <;> omega
  have e2 : d.2.1.toNat + (w64 (r - d.2.1)).toNat = r.toNat := by rw [w64_id (by omega)]; omega
  rw [w64_id (x := r) (by omega), e2, ckb_pos (slb_ok (by omega) (by omega) (by omega))]
  have := sub_len p d.2.1.toNat r.toNat
  rw [slices_Concat2 hn (by omega) (by omega), ob_some]
theorem sub_take {α : Type} (l : List α) {a b : Nat} (h : a ≤ b) : l.take a ++ sub l a b = l.take b := by
  unfold sub
  rw [← List.drop_take]
  have : l.take a = (l.take b).take a := by rw [List.take_take, Nat.min_eq_left h]
  rw [this, List.take_append_drop]
end Go.Pl
namespace Go.Pl
open Go Go.Tv Go.RowKit
theorem slices_Index_int_eq {n : Nat} (hn : BIG ≤ n) {l : List Int} (hl : l.length ≤ 9223372036854775807) (v : Int) : slices_Index_Sint_int_ n l v = some (placeI (l.findIdx? fun x => decide (v = x))) := by
  unfold slices_Index_Sint_int_
  have := fx_find (B := slices_Index_Sint_int__L1 n) l (fun i => (l, v, (l.length : Int), (i : Int))) (fun x => decide (v = x)) (fun i => some (i : Int)) (some (-1)) (fun self i hi => ?_) (fun self => ?_) n (big_gt hn (by omega))
  · have e : ((0 : Nat) : Int) = 0 := rfl
    simp only [e] at this
    rw [this]; unfold placeI; cases l.findIdx? _ <;> rfl
  · have e1 : decide ((i : Int) < (l.length : Int)) = true := decide_eq_true (by omega)
    simp only [slices_Index_Sint_int__L1, e1, br_true, inb_ok hi, ckb_true, toNat_cast, gl_eq hi, lt_eq]
    rw [w64_succ (by omega)]
    by_cases hc : v = l[i] <;> simp [hc]
  · have e1 : decide ((l.length : Int) < (l.length : Int)) = false := decide_eq_false (by omega)
    simp only [slices_Index_Sint_int__L1, e1, br_false]
theorem placeI_nonneg (o : Option Nat) : decide (0 ≤ placeI o) = o.isSome := by
  cases o with
  | none => rfl
  | some i => simp [placeI]
theorem any_eq_contains {l : List Int} {v : Int} : (l.any fun x => decide (v = x)) = l.contains v := by
  rw [Bool.eq_iff_iff]; simp
theorem slices_Contains_int_eq {n : Nat} (hn : BIG ≤ n) {l : List Int} (hl : l.length ≤ 9223372036854775807) (v : Int) : slices_Contains_Sint_int_ n l v = some (l.contains v) := by
  unfold slices_Contains_Sint_int_
  rw [slices_Index_int_eq hn hl]
  simp only [ob_some, placeI_nonneg, List.findIdx?_isSome, any_eq_contains]
end Go.Pl
namespace Go.Pl
open Go Go.Tv Go.RowKit
set_option linter.unusedVariables false
theorem DealOK.len {p : List Card} {d : Deal} (h : DealOK p d) (hp : p.length = 81) : d.2.2.length ≤ 81 := by
  have := len_le h.nodup h.mem
  rw [List.length_take] at this; omega
theorem DealOK.isC {p : List Card} {d : Deal} (h : DealOK p d) (hp : p.Perm deck) : ∀ c, c ∈ d.2.2 → isC c = true := fun c hc => (pile_facts hp).2.2 c (List.mem_of_mem_take (h.mem c hc))
theorem layD_ok {p : List Card} {d : Deal} (h : DealOK p d) (hp : p.Perm deck) {k : Int} (hk : 0 ≤ k) : DealOK p (layD p d k) := by
  obtain ⟨h81, hnd, _⟩ := pile_facts hp
  have hl := h.laid
  unfold layD
  generalize hr : (if 81 < d.2.1 + k then (81 : Int) else d.2.1 + k) = r
  have hr2 : d.2.1 ≤ r ∧ r ≤ 81 := by split at hr <;> omega
  have hab : d.2.1.toNat ≤ r.toNat := by omega
  have hsub : ∀ c, c ∈ sub p d.2.1.toNat r.toNat → c ∈ p.drop d.2.1.toNat := fun c hc => by unfold sub at hc; exact List.mem_of_mem_take hc
  refine ⟨h.seed, by show 0 ≤ r ∧ r ≤ 81; omega, ?_, ?_⟩
  · show (d.2.2 ++ sub p d.2.1.toNat r.toNat).Nodup
    rw [List.nodup_append]
    have hd : (p.take d.2.1.toNat ++ p.drop d.2.1.toNat).Nodup := by rw [List.take_append_drop]; exact hnd
    rw [List.nodup_append] at hd
    refine ⟨h.nodup, ?_, fun a ha b hb => hd.2.2 a (h.mem a ha) b (hsub b hb)⟩
    unfold sub
    exact (hd.2.1).sublist (List.take_sublist _ _)
  · show ∀ c, c ∈ d.2.2 ++ sub p d.2.1.toNat r.toNat → c ∈ p.take r.toNat
    intro c hc
    rw [← sub_take p hab]
    rcases List.mem_append.1 hc with hc | hc
    · exact List.mem_append.2 (.inl (h.mem c hc))
    · exact List.mem_append.2 (.inr hc)
def inT (t : V3 Int) (k : Int) : Bool := (V3.els t).contains k
def rest1 (h : List Card) (t : V3 Int) (k : Nat) : List Card := if inT t k = true then [] else [gl ⟨0, 0, 0, 0⟩ h k]
def rest (h : List Card) (t : V3 Int) : List Card := (List.range' 0 (h.length - 0)).flatMap (rest1 h t)
theorem rest_sub (h : List Card) (t : V3 Int) : ∀ (m i : Nat), h.length - i = m → i ≤ h.length → ((List.range' i m).flatMap (rest1 h t)).Sublist (h.drop i)
  | 0, i, hm, hi => by simp
  | m + 1, i, hm, hi => by
    have hlt : i < h.length := by omega
    rw [List.range'_succ, List.flatMap_cons, List.drop_eq_getElem_cons hlt]
    have ih := rest_sub h t m (i + 1) (by omega) (by omega)
    unfold rest1
    split
    · exact ih.cons _
    · rw [gl_eq hlt]
      exact ih.cons_cons _
theorem rest_sublist (h : List Card) (t : V3 Int) : (rest h t).Sublist h := by
  have := rest_sub h t h.length 0 rfl (Nat.zero_le _)
  unfold rest
  simpa using this
def restD (d : Deal) (t : V3 Int) : Deal := (d.1, d.2.1, rest d.2.2 t)
theorem restD_ok {p : List Card} {d : Deal} (h : DealOK p d) (t : V3 Int) : DealOK p (restD d t) :=
  ⟨h.seed, h.laid, h.nodup.sublist (rest_sublist _ _), fun c hc => h.mem c ((rest_sublist _ _).mem hc)⟩
def takeD (p : List Card) (d : Deal) (t : V3 Int) : Deal := layD p (restD d t) (if (rest d.2.2 t).length < 12 then 12 - ((rest d.2.2 t).length : Int) else 0)
theorem takeD_ok {p : List Card} {d : Deal} (h : DealOK p d) (hp : p.Perm deck) (t : V3 Int) : DealOK p (takeD p d t) := layD_ok (restD_ok h t) hp (by split <;> omega)
theorem rest_len (h : List Card) (t : V3 Int) : (rest h t).length ≤ h.length := (rest_sublist h t).length_le
theorem s_l4Take_eq {n : Nat} (hn : BIG ≤ n) {p : List Card} {d : Deal} (hp : s_l4Pile n d.1 = some p) (hpp : p.Perm deck) (hd : DealOK p d) (t : V3 Int) : s_l4Take n d t = some (takeD p d t) := by
  obtain ⟨h81, _, _⟩ := pile_facts hpp
  have hl81 := hd.len h81
  have hrl := rest_len d.2.2 t
  unfold s_l4Take
  have := fx_app (B := s_l4Take_L1 n) d.2.2.length (fun i a => ((i : Int), d, t, (0 : Int), (0 : Int), d.1, d.2.1, a)) (rest1 d.2.2 t)
    (fun a => Tv.lt (w64 (12 - (a.length : Int))) fun x9 => ob (s_l1Most n 0 x9) fun r10 => ob (s_l4Lay n (d.1, (d.2.1, a)) r10) fun r11 => some (r11.1, r11.2.1, r11.2.2)) 1000 (fun self i a hi hM => ?_) (fun self a => ?_) n 0 [] (Nat.zero_le _) (big_gt hn (by omega)) (by unfold rest at hrl; simp only [List.length_nil]; omega)
  · refine Eq.trans this ?_
    rw [List.nil_append]
    show (Tv.lt (w64 (12 - ((rest d.2.2 t).length : Int))) fun x9 => ob (s_l1Most n 0 x9) fun r10 => ob (s_l4Lay n (d.1, (d.2.1, rest d.2.2 t)) r10) fun r11 => some (r11.1, r11.2.1, r11.2.2)) = _
    rw [lt_eq, w64_id (by omega)]
    unfold s_l1Most
    rw [br_some, ob_some]
    have e : (if decide ((12 : Int) - ((rest d.2.2 t).length : Int) < 0) = true then (0 : Int) else 12 - ((rest d.2.2 t).length : Int)) = if (rest d.2.2 t).length < 12 then 12 - ((rest d.2.2 t).length : Int) else 0 := by
      by_cases h : (12 : Int) - ((rest d.2.2 t).length : Int) < 0
      · rw [decide_eq_true h, if_pos rfl, if_neg (by omega)]
      · rw [decide_eq_false h, if_neg (by simp)]
        split <;> omega
    rw [e, s_l4Lay_eq (d := (d.1, (d.2.1, rest d.2.2 t))) hp h81 hd.laid (by show (rest d.2.2 t).length ≤ 81; omega) (by split <;> omega)]
    rfl
  · simp only [s_l4Take_L1, lt_eq]
    rw [show decide ((i : Int) < (d.2.2.length : Int)) = true from decide_eq_true (by omega), br_true, br_some, ob_some, br_some, ob_some]
    have e : (if (if (!decide ((i : Int) = t.x0)) = true then !decide ((i : Int) = t.x1) else false) = true then !decide ((i : Int) = t.x2) else false) = !inT t i := by
      unfold inT V3.els
      simp only [List.contains_cons, List.contains_nil, Bool.or_false]
      by_cases h0 : (i : Int) = t.x0 <;> by_cases h1 : (i : Int) = t.x1 <;> by_cases h2 : (i : Int) = t.x2 <;> simp [h0, h1, h2]
    rw [e]
    unfold rest1 at hM ⊢
    cases hq : inT t (i : Int) with
    | true => simp only [Bool.not_true, br_false, if_true, List.append_nil]; rw [w64_succ (by omega)]
    | false =>
      rw [hq] at hM
      simp only [Bool.false_eq_true, if_false, List.length_singleton] at hM
      simp only [Bool.not_false, br_true, Bool.false_eq_true, if_false]
      rw [ckb_pos (inb_ok hi), ckb_pos (apok_ok (by omega) (by omega)), w64_succ (by omega), toNat_cast]
  · simp only [s_l4Take_L1]
    rw [show decide ((d.2.2.length : Int) < (d.2.2.length : Int)) = false from decide_eq_false (by omega), br_false]
theorem i_take_eq {n : Nat} (hn : BIG ≤ n) {p : List Card} {d : Deal} (hp : i_pile n d.1 = some p) (hpp : p.Perm deck) (hd : DealOK p d) (t : V3 Int) : _impl_Deal__take n d t = some (takeD p d t) := by
  obtain ⟨h81, _, _⟩ := pile_facts hpp
  have hl81 := hd.len h81
  have hrl := rest_len d.2.2 t
  unfold _impl_Deal__take
  have := fx_app (B := _impl_Deal__take_L1 n) d.2.2.length (fun i a => (d.2.2, (d.2.2.length : Int), (i : Int), d, t, (0 : Int), (0 : Int), a)) (rest1 d.2.2 t)
    (fun a => Tv.lt (w64 (12 - (a.length : Int))) fun x8 => ob (_impl_Deal__lay n (d.1, (d.2.1, a)) (mxI 0 x8)) fun r9 => some (r9.1, r9.2.1, r9.2.2)) 1000 (fun self i a hi hM => ?_) (fun self a => ?_) n 0 [] (Nat.zero_le _) (big_gt hn (by omega)) (by unfold rest at hrl; simp only [List.length_nil]; omega)
  · refine Eq.trans this ?_
    rw [List.nil_append]
    show (Tv.lt (w64 (12 - ((rest d.2.2 t).length : Int))) fun x8 => ob (_impl_Deal__lay n (d.1, (d.2.1, rest d.2.2 t)) (mxI 0 x8)) fun r9 => some (r9.1, r9.2.1, r9.2.2)) = _
    rw [lt_eq, w64_id (by omega)]
    have e : mxI 0 ((12 : Int) - ((rest d.2.2 t).length : Int)) = if (rest d.2.2 t).length < 12 then 12 - ((rest d.2.2 t).length : Int) else 0 := by
      unfold mxI; split <;> split <;> omega
    rw [e, i_lay_eq hn (d := (d.1, (d.2.1, rest d.2.2 t))) hp h81 hd.laid (by show (rest d.2.2 t).length ≤ 81; omega) (by split <;> omega)]
    rfl
  · simp only [_impl_Deal__take_L1, lt_eq]
    rw [show decide ((i : Int) < (d.2.2.length : Int)) = true from decide_eq_true (by omega), br_true, ckb_pos (inb_ok hi), slices_Contains_int_eq hn (by show 3 ≤ 9223372036854775807; omega), ob_some]
    unfold rest1 at hM ⊢
    show br (! inT t i) _ _ = _
    cases hq : inT t (i : Int) with
    | true => simp only [Bool.not_true, br_false, if_true, List.append_nil]; rw [w64_succ (by omega)]
    | false =>
      rw [hq] at hM
      simp only [Bool.false_eq_true, if_false, List.length_singleton] at hM
      simp only [Bool.not_false, br_true, Bool.false_eq_true, if_false]
      rw [ckb_pos (apok_ok (by omega) (by omega)), w64_succ (by omega), toNat_cast]
  · simp only [_impl_Deal__take_L1]
    rw [show decide ((d.2.2.length : Int) < (d.2.2.length : Int)) = false from decide_eq_false (by omega), br_false]
end Go.Pl

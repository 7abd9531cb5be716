/- Plain laws: LQ. -/
import Derived.Test.YtklhncjpkkfjmaaLLD2
import Derived.Test.YtklhncjpkkfjmaaLL81
set_option linter.unusedVariables false
set_option linter.unusedSimpArgs false
namespace Go.Pl
open Go Go.Tv Go.RowKit
set_option linter.unusedVariables false

/-! the pile of a deal: all 81 cards -/
theorem swap_perm {l : List Card} {i j : Nat} (hi : i < l.length) (hj : j < l.length) : ((l.set i l[j]).set j l[i]).Perm l := by
  have h := Array.swap_perm (xs := l.toArray) (i := i) (j := j) (by simpa using hi) (by simpa using hj)
  rw [Array.perm_iff_toList_perm] at h
  have e : (l.toArray.swap i j (by simpa using hi) (by simpa using hj)).toList = (l.set i l[j]).set j l[i] := by
    rw [Array.swap_def]; simp
  rwa [e] at h
def deck : List Card := (List.range 81).map fun (k : Nat) => cardAt (k : Int)
theorem deck_len : deck.length = 81 := by simp [deck]
theorem deck_isC {c : Card} (h : c ∈ deck) : isC c = true := by
  obtain ⟨k, hk, rfl⟩ := List.mem_map.1 h
  rw [List.mem_range] at hk
  exact cardAt_isC (by omega)
theorem mem_deck {c : Card} (h : isC c = true) : c ∈ deck := by
  have hb := num_bd h
  refine List.mem_map.2 ⟨(num c).toNat, by rw [List.mem_range]; omega, ?_⟩
  rw [show (((num c).toNat : Nat) : Int) = num c by omega, cardAt_num h]
theorem deck_nodup : deck.Nodup := by
  unfold deck
  rw [List.Nodup, List.pairwise_map]
  refine List.Pairwise.imp_of_mem ?_ (List.nodup_range (n := 81))
  intro a b ha hb hne h
  rw [List.mem_range] at ha hb
  have := congrArg num h
  rw [num_cardAt (by omega), num_cardAt (by omega)] at this
  omega
/-- the state of the shuffle -/
def PiOK (s : Int × Int × List Card) : Prop := (0 ≤ s.1 ∧ s.1 ≤ 65535) ∧ (0 ≤ s.2.1 ∧ s.2.1 ≤ 80) ∧ s.2.2.Perm deck
theorem behind_ok (n : Nat) {r : Int} (h : 0 ≤ r ∧ r ≤ 65535) : ∃ r', s_l4Behind n r = some r' ∧ i_behind n r = some r' ∧ 0 ≤ r' ∧ r' ≤ 65535 := by
  refine ⟨Int.tmod (25173 * r + 13849) 65536, ?_, ?_, ?_, ?_⟩
  · unfold s_l4Behind; simp only [lt_eq]; rw [w64_id (x := 25173 * r) (by omega), w64_id (by omega)]
  · unfold i_behind; simp only [lt_eq]; rw [w64_id (x := 25173 * r) (by omega), w64_id (by omega)]
  · rw [Int.tmod_eq_emod_of_nonneg (by omega)]; omega
  · rw [Int.tmod_eq_emod_of_nonneg (by omega)]; omega
def swp (l : List Card) (i j : Nat) : List Card := (l.set i (gl ⟨0, 0, 0, 0⟩ l j)).set j (gl ⟨0, 0, 0, 0⟩ l i)
theorem swp_perm {l : List Card} {i j : Nat} (hi : i < l.length) (hj : j < l.length) : (swp l i j).Perm l := by
  unfold swp
  rw [gl_eq hi, gl_eq hj]
  exact swap_perm hi hj
theorem pile_steps (n : Nat) (g g' : Int × Int × List Card → Option (List Card)) {s : Int × Int × List Card} (h : PiOK s) (hp : 0 < s.2.1) :
    ∃ s', PiOK s' ∧ s'.2.1 = s.2.1 - 1 ∧ s_l4Pile_L1 n g s = g s' ∧ i_pile_L1 n g' s = g' s' := by
  obtain ⟨r, i, l⟩ := s
  obtain ⟨h1, h2, h3⟩ := h
  simp only [] at h1 h2 h3 hp
  obtain ⟨r', e1, e2, h4⟩ := behind_ok n h1
  have hl : l.length = 81 := by rw [h3.length_eq, deck_len]
  have q0 : Int.tdiv r' 8 = r' / 8 := Int.tdiv_eq_ediv_of_nonneg h4.1
  have q1 : Int.tmod (r' / 8) (i + 1) = r' / 8 % (i + 1) := Int.tmod_eq_emod_of_nonneg (by omega)
  have q2 : 0 ≤ r' / 8 % (i + 1) := Int.emod_nonneg _ (by omega)
  have q3 : r' / 8 % (i + 1) < i + 1 := Int.emod_lt_of_pos _ (by omega)
  obtain ⟨j, hj⟩ : ∃ j : Nat, r' / 8 % (i + 1) = j := ⟨(r' / 8 % (i + 1)).toNat, by omega⟩
  obtain ⟨k, hk⟩ : ∃ k : Nat, i = k := ⟨i.toNat, by omega⟩
  have i1 : inb i l.length = true := inb_pos (by omega) (by omega)
  have i2 : inb (j : Int) l.length = true := inb_pos (by omega) (by omega)
  have hne : (!decide (i + 1 = 0)) = true := by simp; omega
  have d1 : decide (0 < i) = true := decide_eq_true hp
  have d2 : decide (1 ≤ i) = true := decide_eq_true (by omega)
  have i3 : ∀ x : Card, inb (j : Int) (l.set k x).length = true := fun x => by rw [List.length_set]; exact i2
  refine ⟨(r', i - 1, swp l k j), ⟨h4, by show 0 ≤ i - 1 ∧ i - 1 ≤ 80; omega, (swp_perm (by omega) (by omega)).trans h3⟩, rfl, ?_, ?_⟩
  · unfold s_l4Pile_L1
    simp only [lt_eq, d1, br_true, e1, ob_some]
    rw [w64_id (x := i + 1) (by omega), ckb_pos hne, q0, w64_id (x := r' / 8) (by omega), q1, hj, i1, i2, ckb_true, ckb_true, ckb_true, w64_id (x := i - 1) (by omega)]
    rw [hk, toNat_cast, toNat_cast, i3, ckb_true]
    rfl
  · unfold i_pile_L1
    simp only [lt_eq, d2, br_true, e2, ob_some]
    rw [w64_id (x := i + 1) (by omega), ckb_pos hne, q0, w64_id (x := r' / 8) (by omega), q1, hj, i1, i2, ckb_true, ckb_true, ckb_true, w64_id (x := i - 1) (by omega)]
    rw [hk, toNat_cast, toNat_cast, i3, ckb_true]
    rfl
theorem pile_loop (n : Nat) : ∀ (k : Nat) (s : Int × Int × List Card), PiOK s → s.2.1.toNat < k → ∃ l, fx (s_l4Pile_L1 n) k s = some l ∧ fx (i_pile_L1 n) k s = some l ∧ l.Perm deck
  | 0, _, _, h => by omega
  | k + 1, s, h, hk => by
    rw [fx_succ, fx_succ]
    by_cases hp : 0 < s.2.1
    · obtain ⟨s', h', e, e1, e2⟩ := pile_steps n (fx (s_l4Pile_L1 n) k) (fx (i_pile_L1 n) k) h hp
      rw [e1, e2]
      exact pile_loop n k s' h' (by omega)
    · obtain ⟨r, i, l⟩ := s
      have hp : ¬ 0 < i := hp
      have d1 : decide (0 < i) = false := decide_eq_false hp
      have d2 : decide (1 ≤ i) = false := decide_eq_false (by omega)
      refine ⟨l, ?_, ?_, h.2.2⟩
      · unfold s_l4Pile_L1; simp only [d1, br_false]
      · unfold i_pile_L1; simp only [d2, br_false]
theorem range'_deck : (List.range' 0 (81 - 0)).flatMap (fun k => [cardAt ((k : Nat) : Int)]) = deck := by
  unfold deck
  rw [List.range_eq_range', List.map_eq_flatMap]
theorem pile_ok {n : Nat} (hn : BIG ≤ n) {r : Int} (h : 0 ≤ r ∧ r ≤ 65535) : ∃ l, s_l4Pile n r = some l ∧ i_pile n r = some l ∧ l.Perm deck := by
  obtain ⟨l, e1, e2, hp⟩ := pile_loop n n (r, 80, deck) ⟨h, by show (0 : Int) ≤ 80 ∧ (80 : Int) ≤ 80; omega, .refl _⟩ (big_gt hn (by show (80 : Int).toNat < _; decide))
  refine ⟨l, ?_, ?_, hp⟩
  · unfold s_l4Pile
    have := fx_app (B := s_l4Pile_L2 n) 81 (fun i a => (r, (i : Int), a)) (fun k => [cardAt ((k : Nat) : Int)]) (fun a => fx (s_l4Pile_L1 n) n (r, 80, a)) 100 (fun self i a hi hM => ?_) (fun self a => by
      simp only [s_l4Pile_L2]; rfl) n 0 [] (by omega) (big_gt hn (by omega)) (by rw [range'_deck, deck_len]; simp)
    · refine Eq.trans this ?_
      rw [range'_deck, List.nil_append]; exact e1
    · simp only [s_l4Pile_L2, s_l2At_eq n (r := (i : Int)) (by omega), lt_eq, ob_some]
      rw [show decide ((i : Int) < 81) = true from decide_eq_true (by omega), br_true, ckb_pos (apok_ok (by simp at hM; omega) (by simp at hM; omega)), w64_succ (by omega)]
  · unfold i_pile
    have := fx_app (B := i_pile_L2 n) 81 (fun i a => (r, (i : Int), a)) (fun k => [cardAt ((k : Nat) : Int)]) (fun a => fx (i_pile_L1 n) n (r, 80, a)) 100 (fun self i a hi hM => ?_) (fun self a => by
      simp only [i_pile_L2]; rfl) n 0 [] (by omega) (big_gt hn (by omega)) (by rw [range'_deck, deck_len]; simp)
    · refine Eq.trans this ?_
      rw [range'_deck, List.nil_append]; exact e2
    · simp only [i_pile_L2, i_card_eq n (r := (i : Int)) (by omega), lt_eq, ob_some]
      rw [show decide ((i : Int) < 81) = true from decide_eq_true (by omega), br_true, ckb_pos (apok_ok (by simp at hM; omega) (by simp at hM; omega)), w64_succ (by omega)]
theorem pile_facts {l : List Card} (h : l.Perm deck) : l.length = 81 ∧ l.Nodup ∧ ∀ c, c ∈ l → isC c = true :=
  ⟨by rw [h.length_eq, deck_len], h.nodup_iff.2 deck_nodup, fun c hc => deck_isC (h.mem_iff.1 hc)⟩
end Go.Pl

/- Plain laws: L2b. -/
import Derived.Test.YtklhncjpkkfjmaaLL4
set_option linter.unusedVariables false
set_option linter.unusedSimpArgs false
namespace Go.Pl
open Go Go.Tv Go.RowKit

/-! the places of cards -/
def placeI (o : Option Nat) : Int := match o with | some i => i | none => -1
def place (h : List Card) (c : Card) : Int := placeI (h.findIdx? fun x => decide (x = c))
theorem s_l2Place_eq {n : Nat} (hn : BIG ≤ n) {h : List Card} (hl : h.length ≤ 9223372036854775807) (c : Card) : s_l2Place n h c = some (place h c) := by
  unfold s_l2Place
  have := fx_find (B := s_l2Place_L1 n) h (fun i => (h, (i : Int), c)) (fun x => decide (x = c)) (fun i => some (i : Int)) (some (-1)) (fun self i hi => ?_) (fun self => ?_) n (big_gt hn (by omega))
  · have e : ((0 : Nat) : Int) = 0 := rfl
    simp only [e] at this
    rw [this]; unfold place placeI; cases h.findIdx? _ <;> rfl
  · have e1 : decide ((i : Int) < (h.length : Int)) = true := decide_eq_true (by omega)
    simp only [s_l2Place_L1, e1, br_true, inb_ok hi, ckb_true, toNat_cast, gl_eq hi, lt_eq, eqd]
    rw [w64_succ (by omega)]
    by_cases hc : h[i] = c <;> simp [hc]
  · have e1 : decide ((h.length : Int) < (h.length : Int)) = false := decide_eq_false (by omega)
    simp only [s_l2Place_L1, e1, br_false]

theorem place_bd {h : List Card} {c : Card} : -1 ≤ place h c ∧ place h c < h.length := by
  unfold place placeI
  cases hf : h.findIdx? (fun x => decide (x = c)) with
  | none => simp only; omega
  | some i =>
    have := (List.findIdx?_eq_some_iff_getElem.1 hf).1
    simp only; omega
theorem place_of {h : List Card} {c : Card} {q : Nat} (hnd : h.Nodup) (hq : h[q]? = some c) : place h c = q := by
  obtain ⟨hlt, hqc⟩ := List.getElem?_eq_some_iff.1 hq
  unfold place placeI
  cases hf : h.findIdx? (fun x => decide (x = c)) with
  | none =>
    have := List.findIdx?_eq_none_iff.1 hf c (by rw [← hqc]; exact List.getElem_mem hlt)
    simp at this
  | some i =>
    obtain ⟨h1, h2, _⟩ := List.findIdx?_eq_some_iff_getElem.1 hf
    have h2 := of_decide_eq_true h2
    have : i = q := (List.getElem?_inj h1 hnd).1 (by rw [List.getElem?_eq_getElem h1, hq, h2])
    simp only [this]
theorem place_none {h : List Card} {c : Card} (hq : ∀ q : Nat, h[q]? ≠ some c) : place h c = -1 := by
  unfold place placeI
  cases hf : h.findIdx? (fun x => decide (x = c)) with
  | none => rfl
  | some i =>
    obtain ⟨h1, h2, _⟩ := List.findIdx?_eq_some_iff_getElem.1 hf
    have h2 := of_decide_eq_true h2
    exact (hq i (by rw [List.getElem?_eq_getElem h1, h2])).elim

theorem num_inj {a b : Card} (ha : isC a = true) (hb : isC b = true) (h : num a = num b) : a = b := by
  rw [isC_iff] at ha hb
  unfold num at h
  obtain ⟨a0, a1, a2, a3⟩ := a
  obtain ⟨b0, b1, b2, b3⟩ := b
  simp only at ha hb h
  congr 1 <;> omega
theorem handP_sorted : ∀ {p : Card} {l : List Card}, handP (some p) l = true → (∀ c, c ∈ l → num p < num c) ∧ l.Pairwise fun a b => num a < num b
  | p, [], _ => ⟨fun c hc => (by cases hc), List.Pairwise.nil⟩
  | p, c :: l, h => by
    rw [handP_cons, Bool.and_eq_true, Bool.and_eq_true] at h
    obtain ⟨⟨h1, h2⟩, h3⟩ := h
    have h2 := of_decide_eq_true h2
    obtain ⟨g1, g2⟩ := handP_sorted h3
    refine ⟨fun d hd => ?_, List.pairwise_cons.2 ⟨g1, g2⟩⟩
    rcases List.mem_cons.1 hd with rfl | hd
    · exact h2
    · have := g1 d hd; omega
theorem hand_sorted {h : List Card} (hh : hand h = true) : h.Pairwise fun a b => num a < num b := by
  unfold hand at hh
  rw [Bool.and_eq_true] at hh
  cases h with
  | nil => exact List.Pairwise.nil
  | cons c l =>
    have h1 := hh.1
    rw [handP_cons, Bool.and_eq_true] at h1
    obtain ⟨g1, g2⟩ := handP_sorted h1.2
    exact List.pairwise_cons.2 ⟨g1, g2⟩
theorem hand_nodup {h : List Card} (hh : hand h = true) : h.Nodup := (hand_sorted hh).imp fun hab heq => by rw [heq] at hab; exact absurd hab (Int.lt_irrefl _)

/-! lines of a hand -/
def zz : Card := ⟨0, 0, 0, 0⟩
def ln1 (h : List Card) (i j : Nat) : List (V3 Int) := if (j : Int) < place h (third (gl zz h i) (gl zz h j)) then [⟨i, j, place h (third (gl zz h i) (gl zz h j))⟩] else []
def ln2 (h : List Card) (i : Nat) : List (V3 Int) := (List.range' (i + 1) (h.length - (i + 1))).flatMap (ln1 h i)
def linesOf (h : List Card) : List (V3 Int) := (List.range' 0 (h.length - 0)).flatMap (ln2 h)
theorem flen {α β : Type} {f : α → List β} {M : Nat} : ∀ {l : List α}, (∀ x, x ∈ l → (f x).length ≤ M) → (l.flatMap f).length ≤ l.length * M
  | [], _ => by simp
  | x :: l, h => by
    have := flen (l := l) (f := f) (M := M) fun y hy => h y (by simp [hy])
    have h2 := h x (by simp)
    rw [List.flatMap_cons, List.length_append, List.length_cons, Nat.succ_mul]; omega
theorem ln1_len {h : List Card} {i j : Nat} : (ln1 h i j).length ≤ 1 := by unfold ln1; split <;> simp
theorem ln2_len {h : List Card} {i : Nat} : (ln2 h i).length ≤ h.length := by
  have := flen (l := List.range' (i + 1) (h.length - (i + 1))) (f := ln1 h i) (M := 1) fun _ _ => ln1_len
  rw [List.length_range', Nat.mul_one] at this
  unfold ln2; omega
theorem linesOf_len {h : List Card} : (linesOf h).length ≤ h.length * h.length := by
  have := flen (l := List.range' 0 (h.length - 0)) (f := ln2 h) (M := h.length) fun _ _ => ln2_len
  rw [List.length_range', Nat.sub_zero] at this
  unfold linesOf; exact this
theorem glz_isC {s : List Card} (hs : ∀ c, c ∈ s → isC c = true) {i : Nat} (h : i < s.length) : isC (gl zz s i) = true := by
  rw [gl_eq h]; exact hs _ (List.getElem_mem h)

theorem s_l2Lines_eq {n : Nat} (hn : BIG ≤ n) {s : List Card} (hl : s.length ≤ 81) (hs : ∀ c, c ∈ s → isC c = true) : s_l2Lines n s = some (linesOf s) := by
  unfold s_l2Lines
  have b3 : s.length * s.length ≤ 81 * 81 := Nat.mul_le_mul hl hl
  have h3 := linesOf_len (h := s)
  have e : ∀ i : Nat, i < s.length → decide ((i : Int) < (s.length : Int)) = true := fun i h => decide_eq_true (by omega)
  have e' : decide ((s.length : Int) < (s.length : Int)) = false := decide_eq_false (by omega)
  have := fx_app (B := s_l2Lines_L2 n) s.length (fun i a => (s, (i : Int), a)) (ln2 s) some 1000000 (fun self i a hi hM => ?_) (fun self a => by simp only [s_l2Lines_L2, e', br_false]) n 0 [] (Nat.zero_le _) (big_gt hn (by omega)) (by unfold linesOf at h3; simp only [List.length_nil]; omega)
  · simpa [linesOf] using this
  · simp only [s_l2Lines_L2, e i hi, br_true, lt_eq]
    rw [w64_succ (by omega)]
    refine fx_app (B := s_l2Lines_L1 n self) s.length (fun j a => (s, (i : Int), (j : Int), a)) (ln1 s i) (fun a => self (s, ((i + 1 : Nat) : Int), a)) 1000000 (fun self2 j a hj hM2 => ?_) (fun self2 a => by
      simp only [s_l2Lines_L1, e', br_false, lt_eq]; rw [w64_succ (by omega)]) n (i + 1) a (by omega) (big_gt hn (by omega)) (by unfold ln2 at hM; exact hM)
    have hth := s_l2Third_eq hn (glz_isC hs hi) (glz_isC hs hj)
    unfold zz at hth
    have e5 : third (gl zz s i) (gl zz s j) = third (gl ⟨0, 0, 0, 0⟩ s i) (gl ⟨0, 0, 0, 0⟩ s j) := rfl
    simp only [s_l2Lines_L1, e j hj, br_true, inb_ok hi, inb_ok hj, ckb_true, toNat_cast, lt_eq, hth, ob_some, s_l2Place_eq hn (h := s) (by omega)]
    unfold ln1 at hM2 ⊢
    rw [e5] at hM2 ⊢
    rw [w64_succ (by omega)]
    by_cases hb : (j : Int) < place s (third (gl ⟨0, 0, 0, 0⟩ s i) (gl ⟨0, 0, 0, 0⟩ s j))
    · rw [if_pos hb] at hM2 ⊢
      simp only [List.length_singleton] at hM2
      rw [apok_ok (by omega) (by omega), decide_eq_true hb]; rfl
    · rw [if_neg hb, decide_eq_false hb]; simp

/-! the places of cards, by their numbers -/
theorem VL.get_set {n : Nat} {α : Type} (d : α) (v : VL n α) {k j : Nat} (hk : k < n) (y : α) : VL.get d (VL.set v k y) j = if j = k then y else VL.get d v j := by
  unfold VL.get VL.set
  simp only [List.getD_eq_getElem?_getD, List.getElem?_set]
  have := v.h
  by_cases hj : k = j
  · subst hj; simp [this, hk]
  · have : j ≠ k := fun h => hj h.symm
    simp [hj, this]
theorem VL.get_rep {n : Nat} {α : Type} (d : α) (j : Nat) : VL.get d (VL.rep n d) j = d := by
  unfold VL.get VL.rep
  simp only [List.getD_eq_getElem?_getD, List.getElem?_replicate]
  split <;> rfl
/-- the array has the places of the first i cards -/
def PlA (s : List Card) (i : Nat) (v : VL 81 Int) : Prop := ∀ c, isC c = true → ((∀ q : Nat, q < i → s[q]? ≠ some c) ∧ VL.get 0 v (num c).toNat = 0) ∨ ∃ q : Nat, q < i ∧ s[q]? = some c ∧ VL.get 0 v (num c).toNat = q + 1
theorem PlA.place {s : List Card} {v : VL 81 Int} (h : PlA s s.length v) (hnd : s.Nodup) {c : Card} (hc : isC c = true) : VL.get 0 v (num c).toNat = place s c + 1 := by
  rcases h c hc with ⟨h1, h2⟩ | ⟨q, _, h2, h3⟩
  · rw [h2, place_none fun q => ?_]; rfl
    by_cases hq : q < s.length
    · exact h1 q hq
    · rw [List.getElem?_eq_none (by omega)]; simp
  · rw [h3, place_of hnd h2]

theorem i_linesIn_eq {n : Nat} (hn : BIG ≤ n) {s : List Card} (hl : s.length ≤ 81) (hs : ∀ c, c ∈ s → isC c = true) (hnd : s.Nodup) : i_linesIn n s = some (linesOf s) := by
  unfold i_linesIn
  simp only [lt_eq]
  have b3 : s.length * s.length ≤ 81 * 81 := Nat.mul_le_mul hl hl
  have h3 := linesOf_len (h := s)
  have e : ∀ i : Nat, i < s.length → decide ((i : Int) < (s.length : Int)) = true := fun i h => decide_eq_true (by omega)
  have e' : decide ((s.length : Int) < (s.length : Int)) = false := decide_eq_false (by omega)
  refine fx_up (B := i_linesIn_L3 n) s.length (fun i v => (s, s, (s.length : Int), (i : Int), v)) (fun i v => PlA s i v) (fun _ _ => some (linesOf s)) (fun self i v hi hv hself => ?_) n 0 (VL.rep 81 0) (Nat.zero_le _) (fun c _ => .inl ⟨fun q hq => by omega, VL.get_rep 0 _⟩) (big_gt hn (by omega))
  by_cases hlt : i < s.length
  · have hci : isC s[i] = true := hs _ (List.getElem_mem hlt)
    have hb := num_bd hci
    simp only [i_linesIn_L3, e i hlt, br_true, inb_ok hlt, ckb_true, toNat_cast, gl_eq hlt, i_number_eq hn hci, ob_some, lt_eq]
    rw [w64_succ (by omega), inb_pos hb.1 (by omega)]
    refine hself _ hlt fun c hc => ?_
    rw [VL.get_set 0 v (by omega)]
    by_cases hcc : c = s[i]
    · right
      refine ⟨i, by omega, by rw [List.getElem?_eq_getElem hlt, hcc], ?_⟩
      rw [if_pos (by rw [hcc])]; omega
    · have hne : (num c).toNat ≠ (num s[i]).toNat := fun h => hcc (num_inj hc hci (by have := num_bd hc; omega))
      rw [if_neg hne]
      rcases hv c hc with ⟨h1, h2⟩ | ⟨q, h1, h2, h4⟩
      · refine .inl ⟨fun q hq => ?_, h2⟩
        by_cases hqi : q = i
        · subst hqi; rw [List.getElem?_eq_getElem hlt]; intro h; injection h with h; exact hcc h.symm
        · exact h1 q (by omega)
      · exact .inr ⟨q, by omega, h2, h4⟩
  · have : i = s.length := by omega
    subst this
    simp only [i_linesIn_L3, e', br_false]
    have := fx_app (B := i_linesIn_L2 n) s.length (fun i a => (s, s, (s.length : Int), (i : Int), v, a)) (ln2 s) some 1000000 (fun self i a hi hM => ?_) (fun self a => by simp only [i_linesIn_L2, e', br_false]) n 0 [] (Nat.zero_le _) (big_gt hn (by omega)) (by unfold linesOf at h3; simp only [List.length_nil]; omega)
    · simpa [linesOf] using this
    · simp only [i_linesIn_L2, e i hi, br_true, lt_eq, inb_ok hi, ckb_true, toNat_cast]
      rw [w64_succ (by omega)]
      refine fx_app (B := i_linesIn_L1 n self) s.length (fun j a => (s, (i : Int), (j : Int), s, (s.length : Int), (i : Int), v, a, gl ⟨0, 0, 0, 0⟩ s i)) (ln1 s i) (fun a => self (s, s, (s.length : Int), ((i + 1 : Nat) : Int), v, a)) 1000000 (fun self2 j a hj hM2 => ?_) (fun self2 a => by
        simp only [i_linesIn_L1, e', br_false, lt_eq]; rw [w64_succ (by omega)]) n (i + 1) a (by omega) (big_gt hn (by omega)) (by unfold ln2 at hM; exact hM)
      have hgi := glz_isC hs hi
      have hgj := glz_isC hs hj
      have hth := i_third_eq hn hgi hgj
      have htc := third_isC hgi hgj
      unfold zz at hth htc
      have e5 : third (gl zz s i) (gl zz s j) = third (gl ⟨0, 0, 0, 0⟩ s i) (gl ⟨0, 0, 0, 0⟩ s j) := rfl
      have hnb := num_bd htc
      have hpl := hv.place hnd htc
      have hpb := place_bd (h := s) (c := third (gl ⟨0, 0, 0, 0⟩ s i) (gl ⟨0, 0, 0, 0⟩ s j))
      simp only [i_linesIn_L1, e j hj, br_true, inb_ok hj, ckb_true, toNat_cast, lt_eq, hth, ob_some, i_number_eq hn htc, inb_pos hnb.1 (show num (third (gl ⟨0, 0, 0, 0⟩ s i) (gl ⟨0, 0, 0, 0⟩ s j)) < ((81 : Nat) : Int) by omega), hpl]
      rw [w64_id (x := place s _ + 1 - 1) (by omega), show place s (third (gl ⟨0, 0, 0, 0⟩ s i) (gl ⟨0, 0, 0, 0⟩ s j)) + 1 - 1 = place s (third (gl ⟨0, 0, 0, 0⟩ s i) (gl ⟨0, 0, 0, 0⟩ s j)) by omega]
      unfold ln1 at hM2 ⊢
      rw [e5] at hM2 ⊢
      rw [w64_succ (by omega)]
      by_cases hb : (j : Int) < place s (third (gl ⟨0, 0, 0, 0⟩ s i) (gl ⟨0, 0, 0, 0⟩ s j))
      · rw [if_pos hb] at hM2 ⊢
        simp only [List.length_singleton] at hM2
        rw [apok_ok (by omega) (by omega), decide_eq_true hb]; rfl
      · rw [if_neg hb, decide_eq_false hb]; simp
end Go.Pl

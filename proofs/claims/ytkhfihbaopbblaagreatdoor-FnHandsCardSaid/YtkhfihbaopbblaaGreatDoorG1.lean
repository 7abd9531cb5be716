/- Plain laws: L2b, LD, R4, LRec, R15, LJn, LD2. -/
import Derived.Test.YtkhfihbaopbblaaGreatDoorG0
import Derived.Test.YtkhfihbaopbblaaGreatDoorPL
import Derived.Lib.Join
set_option linter.unusedVariables false
set_option linter.unusedSimpArgs false
namespace Go.Pl
open Go Go.Tv Go.RowKit
def placeI (o : Option Nat) : Int := match o with | some i => i | none => -1
def place (h : List Card) (c : Card) : Int := placeI (h.findIdx? fun x => decide (x = c))
theorem s_l2Place_eq {n : Nat} (hn : BIG ≤ n) {h : List Card} (hl : h.length ≤ 9223372036854775807) (c : Card) : s_l2Place n h c = some (place h c) := by
  unfold s_l2Place
  have := fx_find (B := s_l2Place_L1 n) h (fun i => (h, (i : Int), c)) (fun x => decide (x = c)) (fun i => some (i : Int)) (some (-1)) (fun self i hi => ?_) (fun self => ?_) n (big_gt hn (by omega))
  · have e : ((0 : Nat) : Int) = 0 := rfl
    simp only [e] at this
    rw [this]; unfold place placeI; cases h.findIdx? _ <;> rfl
  · have e1 : decide ((i : Int) < (h.length : Int)) = true := decide_eq_true (by omega)
    simp only [s_l2Place_L1, e1, br_true, inb_ok hi, ckb_true, toNat_cast, gl_eq hi, lt_eq, eqd]
    rw [w64_succ (by omega)]
    by_cases hc : h[i] = c <;> simp [hc]
  · have e1 : decide ((h.length : Int) < (h.length : Int)) = false := decide_eq_false (by omega)
    simp only [s_l2Place_L1, e1, br_false]
theorem place_bd {h : List Card} {c : Card} : -1 ≤ place h c ∧ place h c < h.length := by
  unfold place placeI
  cases hf : h.findIdx? (fun x => decide (x = c)) with
  | none => simp only; omega
  | some i =>
    have := (List.findIdx?_eq_some_iff_getElem.1 hf).1
    simp only; omega
theorem place_of {h : List Card} {c : Card} {q : Nat} (hnd : h.Nodup) (hq : h[q]? = some c) : place h c = q := by
  obtain ⟨hlt, hqc⟩ := List.getElem?_eq_some_iff.1 hq
  unfold place placeI
  cases hf : h.findIdx? (fun x => decide (x = c)) with
  | none =>
    have := List.findIdx?_eq_none_iff.1 hf c (by rw [← hqc]; exact List.getElem_mem hlt)
    simp at this
  | some i =>
    obtain ⟨h1, h2, _⟩ := List.findIdx?_eq_some_iff_getElem.1 hf
    have h2 := of_decide_eq_true h2
    have : i = q := (List.getElem?_inj h1 hnd).1 (by rw [List.getElem?_eq_getElem h1, hq, h2])
    simp only [this]
theorem place_none {h : List Card} {c : Card} (hq : ∀ q : Nat, h[q]? ≠ some c) : place h c = -1 := by
  unfold place placeI
  cases hf : h.findIdx? (fun x => decide (x = c)) with
  | none => rfl
  | some i =>
    obtain ⟨h1, h2, _⟩ := List.findIdx?_eq_some_iff_getElem.1 hf
    have h2 := of_decide_eq_true h2
    exact (hq i (by rw [List.getElem?_eq_getElem h1, h2])).elim
theorem num_inj {a b : Card} (ha : isC a = true) (hb : isC b = true) (h : num a = num b) : a = b := by
  rw [isC_iff] at ha hb
  unfold num at h
  obtain ⟨a0, a1, a2, a3⟩ := a
  obtain ⟨b0, b1, b2, b3⟩ := b
  simp only at ha hb h
  congr 1 <;> omega
theorem handP_sorted : ∀ {p : Card} {l : List Card}, handP (some p) l = true → (∀ c, c ∈ l → num p < num c) ∧ l.Pairwise fun a b => num a < num b
  | p, [], _ => ⟨fun c hc => (by cases hc), List.Pairwise.nil⟩
  | p, c :: l, h => by
    rw [handP_cons, Bool.and_eq_true, Bool.and_eq_true] at h
    obtain ⟨⟨h1, h2⟩, h3⟩ := h
    have h2 := of_decide_eq_true h2
    obtain ⟨g1, g2⟩ := handP_sorted h3
    refine ⟨fun d hd => ?_, List.pairwise_cons.2 ⟨g1, g2⟩⟩
    rcases List.mem_cons.1 hd with rfl | hd
    · exact h2
    · have := g1 d hd; omega
theorem hand_sorted {h : List Card} (hh : hand h = true) : h.Pairwise fun a b => num a < num b := by
  unfold hand at hh
  rw [Bool.and_eq_true] at hh
  cases h with
  | nil => exact List.Pairwise.nil
  | cons c l =>
    have h1 := hh.1
    rw [handP_cons, Bool.and_eq_true] at h1
    obtain ⟨g1, g2⟩ := handP_sorted h1.2
    exact List.pairwise_cons.2 ⟨g1, g2⟩
theorem hand_nodup {h : List Card} (hh : hand h = true) : h.Nodup := (hand_sorted hh).imp fun hab heq => by rw [heq] at hab; exact absurd hab (Int.lt_irrefl _)
def zz : Card := ⟨0, 0, 0, 0⟩
def ln1 (h : List Card) (i j : Nat) : List (V3 Int) := if (j : Int) < place h (third (gl zz h i) (gl zz h j)) then [⟨i, j, place h (third (gl zz h i) (gl zz h j))⟩] else []
def ln2 (h : List Card) (i : Nat) : List (V3 Int) := (List.range' (i + 1) (h.length - (i + 1))).flatMap (ln1 h i)
def linesOf (h : List Card) : List (V3 Int) := (List.range' 0 (h.length - 0)).flatMap (ln2 h)
theorem flen {α β : Type} {f : α → List β} {M : Nat} : ∀ {l : List α}, (∀ x, x ∈ l → (f x).length ≤ M) → (l.flatMap f).length ≤ l.length * M
  | [], _ => by simp
  | x :: l, h => by
    have := flen (l := l) (f := f) (M := M) fun y hy => h y (by simp [hy])
    have h2 := h x (by simp)
    rw [List.flatMap_cons, List.length_append, List.length_cons, Nat.succ_mul]; omega
theorem ln1_len {h : List Card} {i j : Nat} : (ln1 h i j).length ≤ 1 := by unfold ln1; split <;> simp
theorem ln2_len {h : List Card} {i : Nat} : (ln2 h i).length ≤ h.length := by
  have := flen (l := List.range' (i + 1) (h.length - (i + 1))) (f := ln1 h i) (M := 1) fun _ _ => ln1_len
  rw [List.length_range', Nat.mul_one] at this
  unfold ln2; omega
theorem linesOf_len {h : List Card} : (linesOf h).length ≤ h.length * h.length := by
  have := flen (l := List.range' 0 (h.length - 0)) (f := ln2 h) (M := h.length) fun _ _ => ln2_len
  rw [List.length_range', Nat.sub_zero] at this
  unfold linesOf; exact this
theorem glz_isC {s : List Card} (hs : ∀ c, c ∈ s → isC c = true) {i : Nat} (h : i < s.length) : isC (gl zz s i) = true := by
  rw [gl_eq h]; exact hs _ (List.getElem_mem h)
theorem s_l2Lines_eq {n : Nat} (hn : BIG ≤ n) {s : List Card} (hl : s.length ≤ 81) (hs : ∀ c, c ∈ s → isC c = true) : s_l2Lines n s = some (linesOf s) := by
  unfold s_l2Lines
  have b3 : s.length * s.length ≤ 81 * 81 := Nat.mul_le_mul hl hl
  have h3 := linesOf_len (h := s)
  have e : ∀ i : Nat, i < s.length → decide ((i : Int) < (s.length : Int)) = true := fun i h => decide_eq_true (by omega)
  have e' : decide ((s.length : Int) < (s.length : Int)) = false := decide_eq_false (by omega)
  have := fx_app (B := s_l2Lines_L2 n) s.length (fun i a => (s, (i : Int), a)) (ln2 s) some 1000000 (fun self i a hi hM => ?_) (fun self a => by simp only [s_l2Lines_L2, e', br_false]) n 0 [] (Nat.zero_le _) (big_gt hn (by omega)) (by unfold linesOf at h3; simp only [List.length_nil]; omega)
  · simpa [linesOf] using this
  · simp only [s_l2Lines_L2, e i hi, br_true, lt_eq]
    rw [w64_succ (by omega)]
    refine fx_app (B := s_l2Lines_L1 n self) s.length (fun j a => (s, (i : Int), (j : Int), a)) (ln1 s i) (fun a => self (s, ((i + 1 : Nat) : Int), a)) 1000000 (fun self2 j a hj hM2 => ?_) (fun self2 a => by
      simp only [s_l2Lines_L1, e', br_false, lt_eq]; rw [w64_succ (by omega)]) n (i + 1) a (by omega) (big_gt hn (by omega)) (by unfold ln2 at hM; exact hM)
    have hth := s_l2Third_eq hn (glz_isC hs hi) (glz_isC hs hj)
    unfold zz at hth
    have e5 : third (gl zz s i) (gl zz s j) = third (gl ⟨0, 0, 0, 0⟩ s i) (gl ⟨0, 0, 0, 0⟩ s j) := rfl
    simp only [s_l2Lines_L1, e j hj, br_true, inb_ok hi, inb_ok hj, ckb_true, toNat_cast, lt_eq, hth, ob_some, s_l2Place_eq hn (h := s) (by omega)]
    unfold ln1 at hM2 ⊢
    rw [e5] at hM2 ⊢
    rw [w64_succ (by omega)]
    by_cases hb : (j : Int) < place s (third (gl ⟨0, 0, 0, 0⟩ s i) (gl ⟨0, 0, 0, 0⟩ s j))
    · rw [if_pos hb] at hM2 ⊢
      simp only [List.length_singleton] at hM2
      rw [apok_ok (by omega) (by omega), decide_eq_true hb]; rfl
    · rw [if_neg hb, decide_eq_false hb]; simp
theorem VL.get_set {n : Nat} {α : Type} (d : α) (v : VL n α) {k j : Nat} (hk : k < n) (y : α) : VL.get d (VL.set v k y) j = if j = k then y else VL.get d v j := by
  unfold VL.get VL.set
  simp only [List.getD_eq_getElem?_getD, List.getElem?_set]
  have := v.h
  by_cases hj : k = j
  · subst hj; simp [this, hk]
  · have : j ≠ k := fun h => hj h.symm
    simp [hj, this]
theorem VL.get_rep {n : Nat} {α : Type} (d : α) (j : Nat) : VL.get d (VL.rep n d) j = d := by
  unfold VL.get VL.rep
  simp only [List.getD_eq_getElem?_getD, List.getElem?_replicate]
  split <;> rfl
def PlA (s : List Card) (i : Nat) (v : VL 81 Int) : Prop := ∀ c, isC c = true → ((∀ q : Nat, q < i → s[q]? ≠ some c) ∧ VL.get 0 v (num c).toNat = 0) ∨ ∃ q : Nat, q < i ∧ s[q]? = some c ∧ VL.get 0 v (num c).toNat = q + 1
theorem PlA.place {s : List Card} {v : VL 81 Int} (h : PlA s s.length v) (hnd : s.Nodup) {c : Card} (hc : isC c = true) : VL.get 0 v (num c).toNat = place s c + 1 := by
  rcases h c hc with ⟨h1, h2⟩ | ⟨q, _, h2, h3⟩
  · rw [h2, place_none fun q => ?_]; rfl
    by_cases hq : q < s.length
    · exact h1 q hq
    · rw [List.getElem?_eq_none (by omega)]; simp
  · rw [h3, place_of hnd h2]
theorem i_linesIn_eq {n : Nat} (hn : BIG ≤ n) {s : List Card} (hl : s.length ≤ 81) (hs : ∀ c, c ∈ s → isC c = true) (hnd : s.Nodup) : i_linesIn n s = some (linesOf s) := by
  unfold i_linesIn
  simp only [lt_eq]
  have b3 : s.length * s.length ≤ 81 * 81 := Nat.mul_le_mul hl hl
  have h3 := linesOf_len (h := s)
  have e : ∀ i : Nat, i < s.length → decide ((i : Int) < (s.length : Int)) = true := fun i h => decide_eq_true (by omega)
  have e' : decide ((s.length : Int) < (s.length : Int)) = false := decide_eq_false (by omega)
  refine fx_up (B := i_linesIn_L3 n) s.length (fun i v => (s, s, (s.length : Int), (i : Int), v)) (fun i v => PlA s i v) (fun _ _ => some (linesOf s)) (fun self i v hi hv hself => ?_) n 0 (VL.rep 81 0) (Nat.zero_le _) (fun c _ => .inl ⟨fun q hq => by omega, VL.get_rep 0 _⟩) (big_gt hn (by omega))
  by_cases hlt : i < s.length
  · have hci : isC s[i] = true := hs _ (List.getElem_mem hlt)
    have hb := num_bd hci
    simp only [i_linesIn_L3, e i hlt, br_true, inb_ok hlt, ckb_true, toNat_cast, gl_eq hlt, i_number_eq hn hci, ob_some, lt_eq]
    rw [w64_succ (by omega), inb_pos hb.1 (by omega)]
    refine hself _ hlt fun c hc => ?_
    rw [VL.get_set 0 v (by omega)]
    by_cases hcc : c = s[i]
    · right
      refine ⟨i, by omega, by rw [List.getElem?_eq_getElem hlt, hcc], ?_⟩
      rw [if_pos (by rw [hcc])]; omega
    · have hne : (num c).toNat ≠ (num s[i]).toNat := fun h => hcc (num_inj hc hci (by have := num_bd hc; omega))
      rw [if_neg hne]
      rcases hv c hc with ⟨h1, h2⟩ | ⟨q, h1, h2, h4⟩
      · refine .inl ⟨fun q hq => ?_, h2⟩
        by_cases hqi : q = i
        · subst hqi; rw [List.getElem?_eq_getElem hlt]; intro h; injection h with h; exact hcc h.symm
        · exact h1 q (by omega)
      · exact .inr ⟨q, by omega, h2, h4⟩
  · have : i = s.length := by omega
    subst this
    simp only [i_linesIn_L3, e', br_false]
    have := fx_app (B := i_linesIn_L2 n) s.length (fun i a => (s, s, (s.length : Int), (i : Int), v, a)) (ln2 s) some 1000000 (fun self i a hi hM => ?_) (fun self a => by simp only [i_linesIn_L2, e', br_false]) n 0 [] (Nat.zero_le _) (big_gt hn (by omega)) (by unfold linesOf at h3; simp only [List.length_nil]; omega)
    · simpa [linesOf] using this
    · simp only [i_linesIn_L2, e i hi, br_true, lt_eq, inb_ok hi, ckb_true, toNat_cast]
      rw [w64_succ (by omega)]
      refine fx_app (B := i_linesIn_L1 n self) s.length (fun j a => (s, (i : Int), (j : Int), s, (s.length : Int), (i : Int), v, a, gl ⟨0, 0, 0, 0⟩ s i)) (ln1 s i) (fun a => self (s, s, (s.length : Int), ((i + 1 : Nat) : Int), v, a)) 1000000 (fun self2 j a hj hM2 => ?_) (fun self2 a => by
        simp only [i_linesIn_L1, e', br_false, lt_eq]; rw [w64_succ (by omega)]) n (i + 1) a (by omega) (big_gt hn (by omega)) (by unfold ln2 at hM; exact hM)
      have hgi := glz_isC hs hi
      have hgj := glz_isC hs hj
      have hth := i_third_eq hn hgi hgj
      have htc := third_isC hgi hgj
      unfold zz at hth htc
      have e5 : third (gl zz s i) (gl zz s j) = third (gl ⟨0, 0, 0, 0⟩ s i) (gl ⟨0, 0, 0, 0⟩ s j) := rfl
      have hnb := num_bd htc
      have hpl := hv.place hnd htc
      have hpb := place_bd (h := s) (c := third (gl ⟨0, 0, 0, 0⟩ s i) (gl ⟨0, 0, 0, 0⟩ s j))
      simp only [i_linesIn_L1, e j hj, br_true, inb_ok hj, ckb_true, toNat_cast, lt_eq, hth, ob_some, i_number_eq hn htc, inb_pos hnb.1 (show num (third (gl ⟨0, 0, 0, 0⟩ s i) (gl ⟨0, 0, 0, 0⟩ s j)) < ((81 : Nat) : Int) by omega), hpl]
      rw [w64_id (x := place s _ + 1 - 1) (by omega), show place s (third (gl ⟨0, 0, 0, 0⟩ s i) (gl ⟨0, 0, 0, 0⟩ s j)) + 1 - 1 = place s (third (gl ⟨0, 0, 0, 0⟩ s i) (gl ⟨0, 0, 0, 0⟩ s j)) by omega]
      unfold ln1 at hM2 ⊢
      rw [e5] at hM2 ⊢
      rw [w64_succ (by omega)]
      by_cases hb : (j : Int) < place s (third (gl ⟨0, 0, 0, 0⟩ s i) (gl ⟨0, 0, 0, 0⟩ s j))
      · rw [if_pos hb] at hM2 ⊢
        simp only [List.length_singleton] at hM2
        rw [apok_ok (by omega) (by omega), decide_eq_true hb]; rfl
      · rw [if_neg hb, decide_eq_false hb]; simp
end Go.Pl
namespace Go.Pl
open Go Go.Tv Go.RowKit
set_option linter.unusedVariables false
abbrev Cu := (List Int) × (Int × Int)
def CuB (c : Cu) : Prop := ∀ x, x ∈ c.1 → 0 ≤ x ∧ x ≤ 255
structure CuOK (m : Nat) (c : Cu) : Prop where
  b : CuB c
  lo : 0 ≤ c.2.1
  hi : c.2.1 ≤ m
theorem CuOK.mono {m m' : Nat} {c : Cu} (h : CuOK m c) (hm : m ≤ m') : CuOK m' c := ⟨h.b, h.lo, by have := h.hi; omega⟩
theorem and255 (x : Int) : 0 ≤ bits .and .u64 x 255 ∧ bits .and .u64 x 255 ≤ 255 := by
  have h : (BitVec.ofInt 64 x &&& BitVec.ofInt 64 255).toNat ≤ 255 := by
    rw [BitVec.toNat_and]
    exact Nat.and_le_right
  have e : bits .and .u64 x 255 = IntKind.u64.wrap ((BitVec.ofInt 64 x &&& BitVec.ofInt 64 255).toNat : Int) := rfl
  rw [e]
  generalize (BitVec.ofInt 64 x &&& BitVec.ofInt 64 255).toNat = q at h
  simp only [IntKind.wrap, IntKind.bits, IntKind.signed]
  simp
  omega
theorem next_J1 (n : Nat) {m : Nat} {c : Cu} (h : CuOK m c) (hm : m < 4611686018427387904) {x : Int} (hx : 0 ≤ x ∧ x ≤ 255) :
    ∃ r c', s_Cur_next'p_J1 n (x, c) = some (r, c') ∧ CuOK (m + 1) c' ∧ 0 ≤ r ∧ r ≤ 255 := by
  have h1 := h.lo; have h2 := h.hi
  unfold s_Cur_next'p_J1
  simp only [lt_eq]
  rw [w64_id (x := c.2.1 + 1) (by omega)]
  rw [br_dec]
  split
  · exact ⟨_, _, rfl, ⟨h.b, by show 0 ≤ c.2.1 + 1; omega, by show c.2.1 + 1 ≤ ((m + 1 : Nat) : Int); omega⟩, hx⟩
  · have h3 := and255 (shrI .u64 (IntKind.wrap .u64 (IntKind.wrap .u64 (IntKind.wrap .u64 (c.2.2 * 6364136223846793005) + IntKind.wrap .u64 x) + 462197)) 40)
    refine ⟨_, _, rfl, ⟨h.b, by show 0 ≤ c.2.1 + 1; omega, by show c.2.1 + 1 ≤ ((m + 1 : Nat) : Int); omega⟩, ?_⟩
    rw [w64_id (by omega)]
    exact h3
theorem next_ok (n : Nat) {m : Nat} {c : Cu} (h : CuOK m c) (hm : m < 4611686018427387904) : ∃ r c', s_Cur_next'p n c = some (r, c') ∧ CuOK (m + 1) c' ∧ 0 ≤ r ∧ r ≤ 255 := by
  unfold s_Cur_next'p
  rw [br_dec]
  split
  · rename_i hlt
    have h1 := h.lo
    obtain ⟨k, hk⟩ : ∃ k : Nat, c.2.1 = k := ⟨c.2.1.toNat, by omega⟩
    have hkl : k < c.1.length := by omega
    rw [ckb_pos (inb_pos h1 hlt)]
    have hb := h.b _ (List.getElem_mem hkl)
    have e : gl 0 c.1 c.2.1.toNat = c.1[k] := by rw [hk, toNat_cast, gl_eq hkl]
    rw [lt_eq, e, w64_id (by omega)]
    exact next_J1 n h hm hb
  · exact next_J1 n h hm (by omega)
theorem pick_ok (n : Nat) {m : Nat} {c : Cu} (h : CuOK m c) (hm : m < 4611686018427387900) {a : Int} (ha : 1 ≤ a) :
    ∃ r c', s_Cur_pick'p n a c = some (r, c') ∧ CuOK (m + 2) c' ∧ 0 ≤ r ∧ r < a := by
  unfold s_Cur_pick'p
  rw [br_dec]
  split
  · exact ⟨0, c, rfl, h.mono (by omega), by omega, by omega⟩
  · obtain ⟨r, c1, e1, h1, hr⟩ := next_ok n h (by omega)
    rw [e1, ob_some, br_dec]
    have hne : (!decide (a = 0)) = true := by simp; omega
    split
    · obtain ⟨r2, c2, e2, h2, hr2⟩ := next_ok n h1 (by omega)
      simp only [lt_eq]
      rw [e2, ob_some, w64_id (x := r * 256) (by omega), w64_id (by omega), ckb_pos hne]
      refine ⟨_, _, rfl, h2, ?_⟩
      rw [Int.tmod_eq_emod_of_nonneg (by omega)]
      exact ⟨Int.emod_nonneg _ (by omega), Int.emod_lt_of_pos _ (by omega)⟩
    · rw [ckb_pos hne, lt_eq]
      refine ⟨_, _, rfl, h1.mono (by omega), ?_⟩
      rw [Int.tmod_eq_emod_of_nonneg (by omega)]
      exact ⟨Int.emod_nonneg _ (by omega), Int.emod_lt_of_pos _ (by omega)⟩
theorem among_ok (n : Nat) {m : Nat} {c : Cu} (h : CuOK m c) (hm : m < 4611686018427387900) {l : List Int} (hl : 1 ≤ l.length) :
    ∃ r c', s_Cur_among'pl n l c = some (r, c') ∧ CuOK (m + 2) c' ∧ r ∈ l := by
  unfold s_Cur_among'pl
  obtain ⟨r, c1, e1, h1, hr0, hr⟩ := pick_ok n h hm (a := (l.length : Int)) (by omega)
  rw [e1, ob_some, ckb_pos (inb_pos hr0 hr)]
  refine ⟨_, _, rfl, h1, ?_⟩
  have hk : r.toNat < l.length := by omega
  rw [gl_eq hk]
  exact List.getElem_mem hk
theorem one_ok (n : Nat) {m : Nat} {c : Cu} (h : CuOK m c) (hm : m < 4611686018427387900) {a : Int} (ha : 1 ≤ a) :
    ∃ r c', s_Cur_one'p n a c = some (r, c') ∧ CuOK (m + 2) c' := by
  unfold s_Cur_one'p
  obtain ⟨r, c1, e1, h1, hr0, hr⟩ := pick_ok n h hm ha
  rw [e1, ob_some]
  exact ⟨_, _, rfl, h1⟩
theorem cu0 {a : List Int} (h : ∀ x, x ∈ a → 0 ≤ x ∧ x ≤ 255) : CuOK 0 (a, (0, 0)) := ⟨h, Int.le_refl _, Int.le_refl _⟩
end Go.Pl
namespace Go.Pl
open Go Go.Tv Go.RowKit
end Go.Pl
namespace Go.Pl
open Go Go.Tv Go.RowKit
end Go.Pl
namespace Go.Pl
open Go Go.Tv Go.RowKit
theorem eqd_self {α : Type} [DecidableEq α] (a : α) : eqd a a = true := decide_eq_true rfl
end Go.Pl
namespace Go.Pl
open Go Go.Tv Go.RowKit
theorem splitL_ne (c : UInt8) (l : List UInt8) : splitL c l ≠ [] := by
  obtain ⟨t, h, _⟩ := splitL_cons c l
  rw [h]; simp
theorem splitL_count (c : UInt8) : ∀ (l : List UInt8), (splitL c l).length = l.count c + 1
  | [] => rfl
  | b :: l => by
    have := splitL_count c l
    unfold splitL
    by_cases hb : b = c
    · rw [if_pos hb, List.length_cons, this, hb, List.count_cons_self]
    · rw [if_neg hb, List.count_cons_of_ne hb]
      obtain ⟨t, h, _⟩ := splitL_cons c l
      rw [h] at this ⊢
      simpa using this
theorem split_cut {c : UInt8} {l : List UInt8} (h : c ∈ l) : splitL c l = bef c l :: splitL c (aft c l) := by
  conv => lhs; rw [cut_eq h]
  exact splitL_pre _ not_bef
theorem join_split (c : UInt8) : ∀ (l : List UInt8), Lib.join (splitL c l) [c] = l
  | [] => by simp [splitL, Lib.join_one]
  | b :: l => by
    have ih := join_split c l
    unfold splitL
    obtain ⟨t, e, _⟩ := splitL_cons c l
    rw [e] at ih ⊢
    rw [Lib.join_cons] at ih
    by_cases hb : b = c
    · rw [if_pos hb, Lib.join_cons]
      unfold Lib.joinTail at ih ⊢
      rw [List.map_cons, List.flatten_cons, hb]
      simp only [List.nil_append, List.singleton_append, List.cons_append] at ih ⊢
      rw [ih]
    · rw [if_neg hb, Lib.join_cons, List.cons_append, ih]
theorem count_aft {c : UInt8} {l : List UInt8} (h : c ∈ l) : l.count c = (aft c l).count c + 1 := by
  have h1 := splitL_count c l
  rw [split_cut h, List.length_cons, splitL_count] at h1
  omega
theorem strings_Index_at {n : Nat} (s : ByteArray) (c : UInt8) : strings_Index n s (one c) = some (if c ∈ bl s then ((bef c (bl s)).length : Int) else -1) := by
  unfold strings_Index
  rw [index_at]; rfl
theorem rep_set (p : List ByteArray) (x y : ByteArray) (m : Nat) : (p ++ List.replicate (m + 1) x).set p.length y = p ++ y :: List.replicate m x := by
  rw [List.set_append_right _ _ (Nat.le_refl _), Nat.sub_self]; rfl
theorem gen_R {n : Nat} {c : UInt8} : ∀ (m : Nat) (s : ByteArray) (p : List ByteArray) (fu : Nat), s.size ≤ 100000 → (bl s).count c = m → p.length + m ≤ 200000 → m ≤ 100000 → m < fu →
    fx (strings_genSplit_L2 n) fu (s, one c, 0, ((p.length + m : Nat) : Int), (p.length : Int), p ++ List.replicate (m + 1) (⟨#[]⟩ : ByteArray)) = some (p ++ (splitL c (bl s)).map mk) := by
  intro m
  have hJ : ∀ (s : ByteArray) (p : List ByteArray) (m : Nat), p.length ≤ 200000 → m = 0 → strings_genSplit_J1 n (s, (p.length : Int), p ++ List.replicate (m + 1) (⟨#[]⟩ : ByteArray)) = some (p ++ [s]) := by
    intro s p m hp h0
    subst h0
    unfold strings_genSplit_J1
    dsimp only
    have e1 := w64_succ (k := p.length) (by omega)
    rw [ckb_pos (inb_ok (by simp)), toNat_cast, rep_set, lt_eq, e1, lt_eq, ckb_pos (slb_ok (by omega) (by omega) (by simp)), Int.sub_zero, w64_id (by omega), toNat_cast]
    unfold sub
    exact congrArg some (List.take_of_length_le (by simp))
  induction m with
  | zero =>
    intro s p fu hs hc hp hm hf
    obtain ⟨fu, rfl⟩ : ∃ j, fu = j + 1 := ⟨fu - 1, by omega⟩
    rw [fx_succ]
    generalize fx (strings_genSplit_L2 n) fu = g
    unfold strings_genSplit_L2
    dsimp only
    rw [decide_eq_false (by omega), br_false, hJ s p 0 (by omega) rfl]
    have hno : c ∉ bl s := List.count_eq_zero.1 hc
    rw [splitL_no hno]
    simp
  | succ m ih =>
    intro s p fu hs hc hp hm hf
    obtain ⟨fu, rfl⟩ : ∃ j, fu = j + 1 := ⟨fu - 1, by omega⟩
    have hmem : c ∈ bl s := List.count_pos_iff.1 (by omega)
    have hlen : (bl s).length = (bef c (bl s)).length + 1 + (aft c (bl s)).length := by
      have := congrArg List.length (cut_eq hmem)
      simp only [List.length_append, List.length_cons] at this ⊢
      omega
    rw [bl_len] at hlen
    have hca := count_aft hmem
    have hcl := List.count_le_length (a := c) (l := bl s)
    rw [bl_len] at hcl
    have H := ih (mk (aft c (bl s))) (p ++ [mk (bef c (bl s))]) fu (by rw [mk_size]; omega) (by rw [bl_mk]; omega) (by simp; omega) (by omega) (by omega)
    rw [fx_succ]
    generalize fx (strings_genSplit_L2 n) fu = g at H
    unfold strings_genSplit_L2
    dsimp only
    have e0 : ((one c).size : Int) = 1 := rfl
    have e1 : w64 (((bef c (bl s)).length : Int) + 0) = ((bef c (bl s)).length : Int) := by rw [w64_id (by omega)]; omega
    have e2 : w64 (((bef c (bl s)).length : Int) + 1) = (((bef c (bl s)).length + 1 : Nat) : Int) := w64_succ (by omega)
    have e3 : w64 ((p.length : Int) + 1) = ((p.length + 1 : Nat) : Int) := w64_succ (by omega)
    rw [decide_eq_true (by omega), br_true, strings_Index_at, if_pos hmem, ob_some, decide_eq_false (by omega), br_false, e1, lt_eq, ckb_pos (slb_ok (by omega) (by omega) (by omega)), ckb_pos (inb_ok (by simp)), toNat_cast, toNat_cast, rep_set, lt_eq,
      e0, e2, lt_eq, ckb_pos (slb_ok (by omega) (by omega) (by omega)), e3, lt_eq, toNat_cast, ssub_bef hmem, ssub_aft hmem]
    rw [bl_mk] at H
    rw [split_cut hmem]
    simp only [List.length_append, List.length_singleton, List.append_assoc, List.singleton_append] at H
    rw [show p.length + (m + 1) = p.length + 1 + m by omega, H]
    simp
theorem strings_Split_eq {n : Nat} (hn : BIG ≤ n) {s : ByteArray} (hs : s.size ≤ 100000) (c : UInt8) : strings_Split n s (one c) = some ((splitL c (bl s)).map mk) := by
  unfold strings_Split strings_genSplit
  have hcl := List.count_le_length (a := c) (l := bl s)
  rw [bl_len] at hcl
  have e1 : decide ((-1 : Int) = 0) = false := rfl
  have e2 : eqd (one c) (⟨#[]⟩ : ByteArray) = false := by
    rw [eqd_str]
    exact decide_eq_false (fun h => by have := congrArg ByteArray.size h; exact absurd this (by decide : ¬ (1 = 0)))
  have e3 : decide ((-1 : Int) < 0) = true := rfl
  have hcnt : strings_Count_s n s (one c) = some (((bl s).count c : Nat) : Int) := by
    unfold strings_Count_s x_CountString
    have d1 : decide (((one c).size : Int) = 0) = false := rfl
    have d2 : decide (((one c).size : Int) = 1) = true := rfl
    have d3 : inb 0 (one c).size = true := rfl
    have d4 : sb (one c) 0 = (c.toNat : Int) := rfl
    have d5 : ((c.toNat : Int).toNat).toUInt8 = c := by simp
    rw [d1, br_false, d2, br_true, d3, ckb_true, d4, d5, ob_some]; rfl
  rw [e1, br_false, e2, br_false, e3, br_true, hcnt, ob_some, w64_succ (by omega), lt_eq]
  unfold strings_genSplit_J3
  dsimp only
  have e4 : w64 ((s.size : Int) + 1) = ((s.size + 1 : Nat) : Int) := w64_succ (by omega)
  have e5 : mnI (((bl s).count c + 1 : Nat) : Int) ((s.size + 1 : Nat) : Int) = (((bl s).count c + 1 : Nat) : Int) := if_neg (by omega)
  have e6 : w64 ((((bl s).count c + 1 : Nat) : Int) - 1) = (((bl s).count c : Nat) : Int) := by rw [w64_id (by omega)]; omega
  rw [e4, lt_eq, e5, ckb_pos (mkok_ok (by omega) (by omega) (by omega) (by omega)), e6, lt_eq, toNat_cast]
  have := gen_R (n := n) (c := c) ((bl s).count c) s [] n hs rfl (by simp; omega) (by omega) (big_gt hn (by omega))
  simp only [List.length_nil, Nat.zero_add, List.nil_append] at this
  rw [show ((0 : Nat) : Int) = 0 from rfl] at this
  rw [this, ob_some]
def szs (l : List ByteArray) : Nat := (l.map ByteArray.size).sum
theorem szs_cons (x : ByteArray) (l : List ByteArray) : szs (x :: l) = x.size + szs l := by simp [szs]
def joinB (l : List ByteArray) (c : UInt8) : ByteArray := mk (Lib.join (l.map bl) [c])
theorem joinTail_len (c : UInt8) : ∀ (l : List ByteArray), (Lib.joinTail [c] (l.map bl)).length = szs l + l.length
  | [] => by simp [Lib.joinTail, szs]
  | x :: l => by
    have := joinTail_len c l
    unfold Lib.joinTail at this ⊢
    simp only [List.map_cons, List.flatten_cons, List.length_append, List.length_cons, List.length_nil, szs_cons, bl_len] at this ⊢
    omega
theorem joinB_size (x : ByteArray) (l : List ByteArray) (c : UInt8) : (joinB (x :: l) c).size = szs (x :: l) + l.length := by
  unfold joinB
  rw [mk_size, List.map_cons, Lib.join_cons, List.length_append, joinTail_len, bl_len, szs_cons]
  omega
theorem joinB_snoc (x : ByteArray) (l : List ByteArray) (y : ByteArray) (c : UInt8) : joinB (x :: l ++ [y]) c = joinB (x :: l) c ++ one c ++ y := by
  unfold joinB
  refine bl_inj ?_
  rw [bl_app, bl_app, bl_mk, bl_mk, List.cons_append, List.map_cons, List.map_cons, Lib.join_cons, Lib.join_cons, List.map_append]
  unfold Lib.joinTail
  rw [List.map_append, List.flatten_append]
  simp only [List.map_cons, List.map_nil, List.flatten_cons, List.flatten_nil, List.append_nil, List.append_assoc]
  rfl
end Go.Pl
namespace Go.Pl
open Go Go.Tv Go.RowKit
set_option linter.unusedVariables false
def cardAt (r : Int) : Card := ⟨Int.tdiv r 27, Int.tmod (Int.tdiv r 9) 3, Int.tmod (Int.tdiv r 3) 3, Int.tmod r 3⟩
theorem tdm {r : Int} (h : 0 ≤ r) (k : Int) (hk : 0 < k) : Int.tdiv r k = r / k ∧ Int.tmod r k = r % k := ⟨Int.tdiv_eq_ediv_of_nonneg h, Int.tmod_eq_emod_of_nonneg h⟩
theorem cardAt_e {r : Int} (h : 0 ≤ r) : cardAt r = ⟨r / 27, r / 9 % 3, r / 3 % 3, r % 3⟩ := by
  unfold cardAt
  rw [(tdm h 27 (by decide)).1, (tdm h 9 (by decide)).1, (tdm h 3 (by decide)).1, (tdm h 3 (by decide)).2, (tdm (r := r / 9) (by omega) 3 (by decide)).2, (tdm (r := r / 3) (by omega) 3 (by decide)).2]
theorem cardAt_isC {r : Int} (h : 0 ≤ r ∧ r ≤ 80) : isC (cardAt r) = true := by
  rw [cardAt_e h.1, isC_iff]
  refine ⟨⟨?_, ?_⟩, ⟨?_, ?_⟩, ⟨?_, ?_⟩, ?_, ?_⟩ <;> show _ ≤ _ <;> simp only [] <;> omega
theorem s_l2At_eq (n : Nat) {r : Int} (h : 0 ≤ r ∧ r ≤ 80) : s_l2At n r = some (cardAt r) := by
  unfold s_l2At cardAt
  simp only [lt_eq]
  have e := tdm h.1 27 (by decide); have e1 := tdm h.1 9 (by decide); have e2 := tdm h.1 3 (by decide)
  rw [w64_id (x := Int.tdiv r 27) (by rw [e.1]; omega), w64_id (x := Int.tdiv r 9) (by rw [e1.1]; omega), w64_id (x := Int.tdiv r 3) (by rw [e2.1]; omega)]
theorem card_ok (n : Nat) {m : Nat} {c : Cu} (h : CuOK m c) (hm : m < 4611686018427387800) : ∃ r c', s_Cur_card'p n c = some (r, c') ∧ CuOK (m + 8) c' := by
  unfold s_Cur_card'p
  obtain ⟨r, c1, e1, h1, hr0, hr⟩ := pick_ok n h (by omega) (a := 81) (by omega)
  rw [e1, ob_some, s_l2At_eq n (by omega), ob_some]
  obtain ⟨b, c2, e2, h2⟩ := one_ok n h1 (by omega) (a := 40) (by omega)
  rw [e2, ob_some]
  cases b with
  | false => exact ⟨_, _, rfl, h2.mono (by omega)⟩
  | true =>
    simp only [br_true]
    obtain ⟨k, c3, e3, h3, hk0, hk⟩ := pick_ok n h2 (by omega) (a := 4) (by omega)
    rw [e3, ob_some]
    obtain ⟨y, c4, e4, h4, _⟩ := among_ok n h3 (by omega) (l := [(-1), 3, 4611686018427387904, (-9223372036854775808)]) (by decide)
    rw [e4, ob_some, ckb_pos (inb_pos hk0 hk)]
    exact ⟨_, _, rfl, h4⟩
end Go.Pl

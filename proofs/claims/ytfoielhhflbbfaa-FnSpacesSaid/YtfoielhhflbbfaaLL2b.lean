/- Plain laws: L2b. -/
import Derived.Test.YtfoielhhflbbfaaLL4
set_option linter.unusedVariables false
set_option linter.unusedSimpArgs false
namespace Go.Pl
open Go Go.Tv Go.RowKit
def placeI (o : Option Nat) : Int := match o with | some i => i | none => -1
def place (h : List Card) (c : Card) : Int := placeI (h.findIdx? fun x => decide (x = c))
theorem s_l2Place_eq {n : Nat} (hn : BIG ≤ n) {h : List Card} (hl : h.length ≤ 9223372036854775807) (c : Card) : s_l2Place n h c = some (place h c) := by
  unfold s_l2Place
  have := fx_find (B := s_l2Place_L1 n) h (fun i => (h, (i : Int), c)) (fun x => decide (x = c)) (fun i => some (i : Int)) (some (-1)) (fun self i hi => ?_) (fun self => ?_) n (big_gt hn (by omega))
  · have e : ((0 : Nat) : Int) = 0 := rfl
    simp only [e] at this
    rw [this]; unfold place placeI; cases h.findIdx? _ <;> rfl
  · have e1 : decide ((i : Int) < (h.length : Int)) = true := decide_eq_true (by omega)
    simp only [s_l2Place_L1, e1, br_true, inb_ok hi, ckb_true, toNat_cast, gl_eq hi, lt_eq, eqd]
    rw [w64_succ (by omega)]
    by_cases hc : h[i] = c <;> simp [hc]
  · have e1 : decide ((h.length : Int) < (h.length : Int)) = false := decide_eq_false (by omega)
    simp only [s_l2Place_L1, e1, br_false]
theorem place_of {h : List Card} {c : Card} {q : Nat} (hnd : h.Nodup) (hq : h[q]? = some c) : place h c = q := by
  obtain ⟨hlt, hqc⟩ := List.getElem?_eq_some_iff.1 hq
  unfold place placeI
  cases hf : h.findIdx? (fun x => decide (x = c)) with
  | none =>
    have := List.findIdx?_eq_none_iff.1 hf c (by rw [← hqc]; exact List.getElem_mem hlt)
    simp at this
  | some i =>
    obtain ⟨h1, h2, _⟩ := List.findIdx?_eq_some_iff_getElem.1 hf
    have h2 := of_decide_eq_true h2
    have : i = q := (List.getElem?_inj h1 hnd).1 (by rw [List.getElem?_eq_getElem h1, hq, h2])
    simp only [this]
theorem place_none {h : List Card} {c : Card} (hq : ∀ q : Nat, h[q]? ≠ some c) : place h c = -1 := by
  unfold place placeI
  cases hf : h.findIdx? (fun x => decide (x = c)) with
  | none => rfl
  | some i =>
    obtain ⟨h1, h2, _⟩ := List.findIdx?_eq_some_iff_getElem.1 hf
    have h2 := of_decide_eq_true h2
    exact (hq i (by rw [List.getElem?_eq_getElem h1, h2])).elim
theorem num_inj {a b : Card} (ha : isC a = true) (hb : isC b = true) (h : num a = num b) : a = b := by
  rw [isC_iff] at ha hb
  unfold num at h
  obtain ⟨a0, a1, a2, a3⟩ := a
  obtain ⟨b0, b1, b2, b3⟩ := b
  simp only at ha hb h
  congr 1 <;> omega
theorem handP_sorted : ∀ {p : Card} {l : List Card}, handP (some p) l = true → (∀ c, c ∈ l → num p < num c) ∧ l.Pairwise fun a b => num a < num b
  | p, [], _ => ⟨fun c hc => (by cases hc), List.Pairwise.nil⟩
  | p, c :: l, h => by
    rw [handP_cons, Bool.and_eq_true, Bool.and_eq_true] at h
    obtain ⟨⟨h1, h2⟩, h3⟩ := h
    have h2 := of_decide_eq_true h2
    obtain ⟨g1, g2⟩ := handP_sorted h3
    refine ⟨fun d hd => ?_, List.pairwise_cons.2 ⟨g1, g2⟩⟩
    rcases List.mem_cons.1 hd with rfl | hd
    · exact h2
    · have := g1 d hd; omega
theorem hand_sorted {h : List Card} (hh : hand h = true) : h.Pairwise fun a b => num a < num b := by
  unfold hand at hh
  rw [Bool.and_eq_true] at hh
  cases h with
  | nil => exact List.Pairwise.nil
  | cons c l =>
    have h1 := hh.1
    rw [handP_cons, Bool.and_eq_true] at h1
    obtain ⟨g1, g2⟩ := handP_sorted h1.2
    exact List.pairwise_cons.2 ⟨g1, g2⟩
theorem hand_nodup {h : List Card} (hh : hand h = true) : h.Nodup := (hand_sorted hh).imp fun hab heq => by rw [heq] at hab; exact absurd hab (Int.lt_irrefl _)
def zz : Card := ⟨0, 0, 0, 0⟩
theorem VL.get_set {n : Nat} {α : Type} (d : α) (v : VL n α) {k j : Nat} (hk : k < n) (y : α) : VL.get d (VL.set v k y) j = if j = k then y else VL.get d v j := by
  unfold VL.get VL.set
  simp only [List.getD_eq_getElem?_getD, List.getElem?_set]
  have := v.h
  by_cases hj : k = j
  · subst hj; simp [this, hk]
  · have : j ≠ k := fun h => hj h.symm
    simp [hj, this]
theorem VL.get_rep {n : Nat} {α : Type} (d : α) (j : Nat) : VL.get d (VL.rep n d) j = d := by
  unfold VL.get VL.rep
  simp only [List.getD_eq_getElem?_getD, List.getElem?_replicate]
  split <;> rfl
def PlA (s : List Card) (i : Nat) (v : VL 81 Int) : Prop := ∀ c, isC c = true → ((∀ q : Nat, q < i → s[q]? ≠ some c) ∧ VL.get 0 v (num c).toNat = 0) ∨ ∃ q : Nat, q < i ∧ s[q]? = some c ∧ VL.get 0 v (num c).toNat = q + 1
theorem PlA.place {s : List Card} {v : VL 81 Int} (h : PlA s s.length v) (hnd : s.Nodup) {c : Card} (hc : isC c = true) : VL.get 0 v (num c).toNat = place s c + 1 := by
  rcases h c hc with ⟨h1, h2⟩ | ⟨q, _, h2, h3⟩
  · rw [h2, place_none fun q => ?_]; rfl
    by_cases hq : q < s.length
    · exact h1 q hq
    · rw [List.getElem?_eq_none (by omega)]; simp
  · rw [h3, place_of hnd h2]
end Go.Pl

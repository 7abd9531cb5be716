/- Plain laws: LFr, LD, LD2, LX1, L81, LQ, LR, LTh. -/
import Derived.Test.YtfoielhhflbbfaaG0
import Derived.KernelRfl
import Derived.Test.YtfoielhhflbbfaaPL
set_option linter.unusedVariables false
set_option linter.unusedSimpArgs false
namespace Go.Pl
open Go Go.Tv Go.RowKit
set_option linter.unusedVariables false
def chof (n k : Nat) : Nat := (List.range k).foldl (fun out i => out * (n - i) / (i + 1)) 1
noncomputable def chkCho (m : Nat) : Bool := (List.range 82).all fun n => (List.range (if n < 28 then 16 else 5)).all fun k => decide (s_l9Choose (m + 20) (n : Int) (k : Int) = some (chof n k : Int)) && decide (i_choose (m + 20) (n : Int) (k : Int) = some (chof n k : Int)) && decide (chof n k ≤ 1000000000000)
theorem chkCho_ok (m : Nat) : chkCho m = true := by kernel_rfl
theorem choose_eq {n : Nat} (hn : BIG ≤ n) {a k : Nat} (ha : a ≤ 81) (hk : k ≤ 4 ∨ a ≤ 27 ∧ k ≤ 15) : s_l9Choose n (a : Int) (k : Int) = some (chof a k : Int) ∧ i_choose n (a : Int) (k : Int) = some (chof a k : Int) ∧ chof a k ≤ 1000000000000 := by
  obtain ⟨m, rfl⟩ : ∃ m, n = m + 20 := ⟨n - 20, by unfold BIG at hn; omega⟩
  have := List.all_eq_true.1 (List.all_eq_true.1 (chkCho_ok m) a (List.mem_range.2 (by omega))) k (List.mem_range.2 (by split <;> omega))
  rw [Bool.and_eq_true, Bool.and_eq_true] at this
  exact ⟨of_decide_eq_true this.1.1, of_decide_eq_true this.1.2, of_decide_eq_true this.2⟩
def FR (n d : Nat) : V2 Int := ⟨((n / Nat.gcd n d : Nat) : Int), ((d / Nat.gcd n d : Nat) : Int)⟩
theorem gcd_step (a b : Nat) : Nat.gcd b (a % b) = Nat.gcd a b := by rw [Nat.gcd_comm b, ← Nat.gcd_rec, Nat.gcd_comm]
theorem i_fraction_eq {n : Nat} (hn : BIG ≤ n) {a b : Nat} (hb : 0 < b) (ha1 : a ≤ 4611686018427387904) (hb1 : b ≤ 4611686018427387904) : i_fraction n (a : Int) (b : Int) = some (FR a b, true) := by
  unfold i_fraction
  have hg : 0 < Nat.gcd a b := Nat.gcd_pos_of_pos_right _ hb
  have hga : Nat.gcd a b ≤ b := Nat.gcd_le_right _ hb
  refine fx_inv (B := i_fraction_L1 n) (fun s => ∃ x y : Nat, s = ((a : Int), (b : Int), (x : Int), (y : Int), ⟨0, 0⟩) ∧ Nat.gcd x y = Nat.gcd a b) (fun s => s.2.2.2.1.toNat) (fun o => o = some (FR a b, true)) ?_ n _ ⟨a, b, rfl, rfl⟩ (big_gt hn (by simp only []; omega))
  rintro self _ ⟨x, y, rfl, hxy⟩ ih
  simp only [i_fraction_L1, lt_eq]
  by_cases hy : y = 0
  · subst hy
    rw [Nat.gcd_zero_right] at hxy
    subst hxy
    rw [br_neg (by simp), ckb_pos (by simp; omega), ckb_pos (by simp; omega)]
    have e1 : ∀ z : Nat, Int.tdiv (z : Int) ((Nat.gcd a b : Nat) : Int) = ((z / Nat.gcd a b : Nat) : Int) := fun z => rfl
    have d1 := Nat.div_le_self a (Nat.gcd a b)
    have d2 := Nat.div_le_self b (Nat.gcd a b)
    unfold FR
    rw [e1, e1]
    generalize a / Nat.gcd a b = u at d1 ⊢
    generalize b / Nat.gcd a b = v at d2 ⊢
    rw [w64_id (by omega), w64_id (by omega)]
  · rw [br_pos (by simp; omega), ckb_pos (by simp; omega)]
    have e1 : Int.tmod (x : Int) (y : Int) = ((x % y : Nat) : Int) := rfl
    rw [e1]
    have := Nat.mod_lt x (show 0 < y by omega)
    exact ih _ ⟨y, x % y, rfl, by rw [gcd_step]; exact hxy⟩ (by simp only []; omega)
theorem s_l9Cut_eq {n : Nat} (hn : BIG ≤ n) {a b : Nat} (hb : 0 < b) (ha1 : a ≤ 4611686018427387904) (hb1 : b ≤ 4611686018427387904) : s_l9Cut n (a : Int) (b : Int) = some (FR a b) := by
  unfold s_l9Cut
  have hg : 0 < Nat.gcd a b := Nat.gcd_pos_of_pos_right _ hb
  refine fx_inv (B := s_l9Cut_L1 n) (fun s => ∃ x y : Nat, s = ((a : Int), (b : Int), (x : Int), (y : Int), ⟨0, 0⟩) ∧ Nat.gcd x y = Nat.gcd a b) (fun s => s.2.2.2.1.toNat) (fun o => o = some (FR a b)) ?_ n _ ⟨a, b, rfl, rfl⟩ (big_gt hn (by simp only []; omega))
  rintro self _ ⟨x, y, rfl, hxy⟩ ih
  simp only [s_l9Cut_L1, lt_eq]
  by_cases hy : y = 0
  · subst hy
    rw [Nat.gcd_zero_right] at hxy
    subst hxy
    have em : s_l1Most n ((Nat.gcd a b : Nat) : Int) 1 = some ((Nat.gcd a b : Nat) : Int) := by
      unfold s_l1Most
      rw [br_dec]
      split
      · rfl
      · congr 1; omega
    rw [br_neg (by simp), em, ob_some, ckb_pos (by simp; omega), ob_some, ckb_pos (by simp; omega)]
    have e1 : ∀ z : Nat, Int.tdiv (z : Int) ((Nat.gcd a b : Nat) : Int) = ((z / Nat.gcd a b : Nat) : Int) := fun z => rfl
    have d1 := Nat.div_le_self a (Nat.gcd a b)
    have d2 := Nat.div_le_self b (Nat.gcd a b)
    unfold FR
    rw [e1, e1]
    generalize a / Nat.gcd a b = u at d1 ⊢
    generalize b / Nat.gcd a b = v at d2 ⊢
    rw [w64_id (by omega), w64_id (by omega)]
  · rw [br_pos (by simp; omega), ckb_pos (by simp; omega)]
    have e1 : Int.tmod (x : Int) (y : Int) = ((x % y : Nat) : Int) := rfl
    rw [e1]
    have := Nat.mod_lt x (show 0 < y by omega)
    exact ih _ ⟨y, x % y, rfl, by rw [gcd_step]; exact hxy⟩ (by simp only []; omega)
theorem FR_cross {a b : Nat} (hb : 0 < b) : ∃ p q : Nat, FR a b = ⟨(p : Int), (q : Int)⟩ ∧ p * b = a * q ∧ 0 < q ∧ p ≤ a ∧ q ≤ b := by
  have hg : 0 < Nat.gcd a b := Nat.gcd_pos_of_pos_right _ hb
  refine ⟨_, _, rfl, ?_, Nat.div_pos (Nat.gcd_le_right _ hb) hg, Nat.div_le_self _ _, Nat.div_le_self _ _⟩
  obtain ⟨x, hx⟩ := Nat.gcd_dvd_left a b
  obtain ⟨y, hy⟩ := Nat.gcd_dvd_right a b
  generalize Nat.gcd a b = g at hg hx hy
  subst hx hy
  rw [Nat.mul_div_cancel_left _ hg, Nat.mul_div_cancel_left _ hg, Nat.mul_left_comm, Nat.mul_assoc]
end Go.Pl
namespace Go.Pl
open Go Go.Tv Go.RowKit
set_option linter.unusedVariables false
abbrev Cu := (List Int) × (Int × Int)
def CuB (c : Cu) : Prop := ∀ x, x ∈ c.1 → 0 ≤ x ∧ x ≤ 255
structure CuOK (m : Nat) (c : Cu) : Prop where
  b : CuB c
  lo : 0 ≤ c.2.1
  hi : c.2.1 ≤ m
theorem CuOK.mono {m m' : Nat} {c : Cu} (h : CuOK m c) (hm : m ≤ m') : CuOK m' c := ⟨h.b, h.lo, by have := h.hi; omega⟩
theorem and255 (x : Int) : 0 ≤ bits .and .u64 x 255 ∧ bits .and .u64 x 255 ≤ 255 := by
  have h : (BitVec.ofInt 64 x &&& BitVec.ofInt 64 255).toNat ≤ 255 := by
    rw [BitVec.toNat_and]
    exact Nat.and_le_right
  have e : bits .and .u64 x 255 = IntKind.u64.wrap ((BitVec.ofInt 64 x &&& BitVec.ofInt 64 255).toNat : Int) := rfl
  rw [e]
  generalize (BitVec.ofInt 64 x &&& BitVec.ofInt 64 255).toNat = q at h
  simp only [IntKind.wrap, IntKind.bits, IntKind.signed]
  simp
  omega
theorem next_J1 (n : Nat) {m : Nat} {c : Cu} (h : CuOK m c) (hm : m < 4611686018427387904) {x : Int} (hx : 0 ≤ x ∧ x ≤ 255) :
    ∃ r c', s_Cur_next'p_J1 n (x, c) = some (r, c') ∧ CuOK (m + 1) c' ∧ 0 ≤ r ∧ r ≤ 255 := by
  have h1 := h.lo; have h2 := h.hi
  unfold s_Cur_next'p_J1
  simp only [lt_eq]
  rw [w64_id (x := c.2.1 + 1) (by omega)]
  rw [br_dec]
  split
  · exact ⟨_, _, rfl, ⟨h.b, by show 0 ≤ c.2.1 + 1; omega, by show c.2.1 + 1 ≤ ((m + 1 : Nat) : Int); omega⟩, hx⟩
  · have h3 := and255 (shrI .u64 (IntKind.wrap .u64 (IntKind.wrap .u64 (IntKind.wrap .u64 (c.2.2 * 6364136223846793005) + IntKind.wrap .u64 x) + 462197)) 40)
    refine ⟨_, _, rfl, ⟨h.b, by show 0 ≤ c.2.1 + 1; omega, by show c.2.1 + 1 ≤ ((m + 1 : Nat) : Int); omega⟩, ?_⟩
    rw [w64_id (by omega)]
    exact h3
theorem next_ok (n : Nat) {m : Nat} {c : Cu} (h : CuOK m c) (hm : m < 4611686018427387904) : ∃ r c', s_Cur_next'p n c = some (r, c') ∧ CuOK (m + 1) c' ∧ 0 ≤ r ∧ r ≤ 255 := by
  unfold s_Cur_next'p
  rw [br_dec]
  split
  · rename_i hlt
    have h1 := h.lo
    obtain ⟨k, hk⟩ : ∃ k : Nat, c.2.1 = k := ⟨c.2.1.toNat, by omega⟩
    have hkl : k < c.1.length := by omega
    rw [ckb_pos (inb_pos h1 hlt)]
    have hb := h.b _ (List.getElem_mem hkl)
    have e : gl 0 c.1 c.2.1.toNat = c.1[k] := by rw [hk, toNat_cast, gl_eq hkl]
    rw [lt_eq, e, w64_id (by omega)]
    exact next_J1 n h hm hb
  · exact next_J1 n h hm (by omega)
theorem pick_ok (n : Nat) {m : Nat} {c : Cu} (h : CuOK m c) (hm : m < 4611686018427387900) {a : Int} (ha : 1 ≤ a) :
    ∃ r c', s_Cur_pick'p n a c = some (r, c') ∧ CuOK (m + 2) c' ∧ 0 ≤ r ∧ r < a := by
  unfold s_Cur_pick'p
  rw [br_dec]
  split
  · exact ⟨0, c, rfl, h.mono (by omega), by omega, by omega⟩
  · obtain ⟨r, c1, e1, h1, hr⟩ := next_ok n h (by omega)
    rw [e1, ob_some, br_dec]
    have hne : (!decide (a = 0)) = true := by simp; omega
    split
    · obtain ⟨r2, c2, e2, h2, hr2⟩ := next_ok n h1 (by omega)
      simp only [lt_eq]
      rw [e2, ob_some, w64_id (x := r * 256) (by omega), w64_id (by omega), ckb_pos hne]
      refine ⟨_, _, rfl, h2, ?_⟩
      rw [Int.tmod_eq_emod_of_nonneg (by omega)]
      exact ⟨Int.emod_nonneg _ (by omega), Int.emod_lt_of_pos _ (by omega)⟩
    · rw [ckb_pos hne, lt_eq]
      refine ⟨_, _, rfl, h1.mono (by omega), ?_⟩
      rw [Int.tmod_eq_emod_of_nonneg (by omega)]
      exact ⟨Int.emod_nonneg _ (by omega), Int.emod_lt_of_pos _ (by omega)⟩
theorem among_ok (n : Nat) {m : Nat} {c : Cu} (h : CuOK m c) (hm : m < 4611686018427387900) {l : List Int} (hl : 1 ≤ l.length) :
    ∃ r c', s_Cur_among'pl n l c = some (r, c') ∧ CuOK (m + 2) c' ∧ r ∈ l := by
  unfold s_Cur_among'pl
  obtain ⟨r, c1, e1, h1, hr0, hr⟩ := pick_ok n h hm (a := (l.length : Int)) (by omega)
  rw [e1, ob_some, ckb_pos (inb_pos hr0 hr)]
  refine ⟨_, _, rfl, h1, ?_⟩
  have hk : r.toNat < l.length := by omega
  rw [gl_eq hk]
  exact List.getElem_mem hk
theorem one_ok (n : Nat) {m : Nat} {c : Cu} (h : CuOK m c) (hm : m < 4611686018427387900) {a : Int} (ha : 1 ≤ a) :
    ∃ r c', s_Cur_one'p n a c = some (r, c') ∧ CuOK (m + 2) c' := by
  unfold s_Cur_one'p
  obtain ⟨r, c1, e1, h1, hr0, hr⟩ := pick_ok n h hm ha
  rw [e1, ob_some]
  exact ⟨_, _, rfl, h1⟩
theorem cu0 {a : List Int} (h : ∀ x, x ∈ a → 0 ≤ x ∧ x ≤ 255) : CuOK 0 (a, (0, 0)) := ⟨h, Int.le_refl _, Int.le_refl _⟩
end Go.Pl
namespace Go.Pl
open Go Go.Tv Go.RowKit
set_option linter.unusedVariables false
def cardAt (r : Int) : Card := ⟨Int.tdiv r 27, Int.tmod (Int.tdiv r 9) 3, Int.tmod (Int.tdiv r 3) 3, Int.tmod r 3⟩
theorem tdm {r : Int} (h : 0 ≤ r) (k : Int) (hk : 0 < k) : Int.tdiv r k = r / k ∧ Int.tmod r k = r % k := ⟨Int.tdiv_eq_ediv_of_nonneg h, Int.tmod_eq_emod_of_nonneg h⟩
theorem cardAt_e {r : Int} (h : 0 ≤ r) : cardAt r = ⟨r / 27, r / 9 % 3, r / 3 % 3, r % 3⟩ := by
  unfold cardAt
  rw [(tdm h 27 (by decide)).1, (tdm h 9 (by decide)).1, (tdm h 3 (by decide)).1, (tdm h 3 (by decide)).2, (tdm (r := r / 9) (by omega) 3 (by decide)).2, (tdm (r := r / 3) (by omega) 3 (by decide)).2]
theorem cardAt_isC {r : Int} (h : 0 ≤ r ∧ r ≤ 80) : isC (cardAt r) = true := by
  rw [cardAt_e h.1, isC_iff]
  refine ⟨⟨?_, ?_⟩, ⟨?_, ?_⟩, ⟨?_, ?_⟩, ?_, ?_⟩ <;> show _ ≤ _ <;> simp only [] <;> omega
theorem s_l2At_eq (n : Nat) {r : Int} (h : 0 ≤ r ∧ r ≤ 80) : s_l2At n r = some (cardAt r) := by
  unfold s_l2At cardAt
  simp only [lt_eq]
  have e := tdm h.1 27 (by decide); have e1 := tdm h.1 9 (by decide); have e2 := tdm h.1 3 (by decide)
  rw [w64_id (x := Int.tdiv r 27) (by rw [e.1]; omega), w64_id (x := Int.tdiv r 9) (by rw [e1.1]; omega), w64_id (x := Int.tdiv r 3) (by rw [e2.1]; omega)]
theorem i_card_eq (n : Nat) {r : Int} (h : 0 ≤ r ∧ r ≤ 80) : i_card n r = some (cardAt r) := s_l2At_eq n h
end Go.Pl
namespace Go.Pl
open Go Go.Tv Go.RowKit
end Go.Pl
namespace Go.Pl
open Go Go.Tv Go.RowKit
def cardN (k : Nat) : Card := ⟨((k / 27 : Nat) : Int), ((k / 9 % 3 : Nat) : Int), ((k / 3 % 3 : Nat) : Int), ((k % 3 : Nat) : Int)⟩
def cards81 : List Card := (List.range 81).map cardN
theorem mem_cards81 {c : Card} (h : isC c = true) : c ∈ cards81 := by
  rw [isC_iff] at h
  obtain ⟨c0, c1, c2, c3⟩ := c
  simp only at h
  refine List.mem_map.2 ⟨(27 * c0 + 9 * c1 + 3 * c2 + c3).toNat, by rw [List.mem_range]; omega, ?_⟩
  unfold cardN
  congr 1 <;> omega
end Go.Pl
namespace Go.Pl
open Go Go.Tv Go.RowKit
set_option linter.unusedVariables false
end Go.Pl
namespace Go.Pl
open Go Go.Tv Go.RowKit
set_option linter.unusedVariables false
theorem has_any (l : List Card) (c : Card) : (l.any fun x => decide (x = c)) = l.contains c := by
  induction l with
  | nil => rfl
  | cons a t ih =>
    rw [List.any_cons, List.contains_cons, ih]
    congr 1
    by_cases h : a = c
    · rw [h]; simp
    · rw [decide_eq_false h]; exact (beq_eq_false_iff_ne.2 (Ne.symm h)).symm
theorem s_l2Has_eq {n : Nat} (hn : BIG ≤ n) {h : List Card} (hl : h.length ≤ 9223372036854775807) (c : Card) : s_l2Has n h c = some (h.contains c) := by
  unfold s_l2Has
  rw [s_l2Place_eq hn hl, ob_some]
  have e : decide (0 ≤ place h c) = (h.findIdx? fun x => decide (x = c)).isSome := by
    unfold place placeI
    cases hq : h.findIdx? fun x => decide (x = c) with
    | none => rfl
    | some i => exact decide_eq_true (by simp only []; omega)
  rw [e, findIdx?_any, has_any]
theorem slices_Index_eq {n : Nat} (hn : BIG ≤ n) {h : List Card} (hl : h.length ≤ 9223372036854775807) (c : Card) : slices_Index_SA4_A4_ n h c = some (place h c) := by
  unfold slices_Index_SA4_A4_
  have := fx_find (B := slices_Index_SA4_A4__L1 n) h (fun i => (h, (h.length : Int), (i : Int), c)) (fun x => decide (x = c)) (fun i => some (i : Int)) (some (-1)) (fun self i hi => ?_) (fun self => ?_) n (big_gt hn (by omega))
  · refine Eq.trans this ?_
    unfold place placeI
    cases h.findIdx? fun x => decide (x = c) <;> rfl
  · simp only [slices_Index_SA4_A4__L1, lt_eq]
    rw [show decide ((i : Int) < (h.length : Int)) = true from decide_eq_true (by omega), br_true, ckb_pos (inb_ok hi), toNat_cast, gl_eq hi, w64_succ (by omega), eqd]
    by_cases hc : h[i] = c
    · rw [if_pos (by simp [hc])]; simp [hc]
    · rw [if_neg (by simp [hc])]
      rw [show decide (c = h[i]) = false from decide_eq_false (fun e => hc e.symm), br_false]
  · simp only [slices_Index_SA4_A4__L1]
    rw [show decide ((h.length : Int) < (h.length : Int)) = false from decide_eq_false (by omega), br_false]
theorem i_has_eq {n : Nat} (hn : BIG ≤ n) {h : List Card} (hl : h.length ≤ 9223372036854775807) (c : Card) : i_has n h c = some (h.contains c) := by
  rw [← s_l2Has_eq hn hl]
  unfold i_has slices_Contains_SA4_A4_ s_l2Has
  rw [slices_Index_eq hn hl, s_l2Place_eq hn hl]
  rfl
end Go.Pl
namespace Go.Pl
open Go Go.Tv Go.RowKit
set_option linter.unusedVariables false
theorem t3_in012 {x : Int} (h : 0 ≤ x ∧ x ≤ 2) : x = 0 ∨ x = 1 ∨ x = 2 := by omega
theorem t3_self {x : Int} (h : 0 ≤ x ∧ x ≤ 2) : t3 x x = x := by rcases t3_in012 h with rfl | rfl | rfl <;> decide
theorem t3_back' {x y : Int} (hx : 0 ≤ x ∧ x ≤ 2) (hy : 0 ≤ y ∧ y ≤ 2) : t3 x (t3 x y) = y := by
  rcases t3_in012 hx with rfl | rfl | rfl <;> rcases t3_in012 hy with rfl | rfl | rfl <;> decide
theorem th_self {a : Card} (h : isC a = true) : third a a = a := by
  rw [isC_iff] at h
  unfold third
  rw [t3_self h.1, t3_self h.2.1, t3_self h.2.2.1, t3_self h.2.2.2]
theorem th_comm (a b : Card) : third a b = third b a := by
  have e : ∀ x y : Int, t3 x y = t3 y x := fun x y => by unfold t3; congr 1; omega
  unfold third; rw [e a.x0, e a.x1, e a.x2, e a.x3]
theorem th_back {a b : Card} (ha : isC a = true) (hb : isC b = true) : third a (third a b) = b := by
  rw [isC_iff] at ha hb
  unfold third
  simp only []
  rw [t3_back' ha.1 hb.1, t3_back' ha.2.1 hb.2.1, t3_back' ha.2.2.1 hb.2.2.1, t3_back' ha.2.2.2 hb.2.2.2]
theorem th_ne {a b : Card} (ha : isC a = true) (hb : isC b = true) (h : a ≠ b) : third a b ≠ a := fun e => by
  have := th_back ha hb
  rw [e, th_self ha] at this
  exact h this
theorem th_ne2 {a b : Card} (ha : isC a = true) (hb : isC b = true) (h : a ≠ b) : third a b ≠ b := by
  rw [th_comm]; exact th_ne hb ha (Ne.symm h)
structure HandL (h : List Card) : Prop where
  c : AllC h
  nd : h.Nodup
  len : h.length ≤ 100
theorem HandL.of {h : List Card} (hh : hand h = true) : HandL h := ⟨hand_all hh, hand_nodup hh, by have := hand_len hh; omega⟩
theorem HandL.ne {h : List Card} (H : HandL h) {i j : Nat} (hi : i < h.length) (hj : j < h.length) (hne : i ≠ j) : gl (⟨0, 0, 0, 0⟩ : Card) h i ≠ gl (⟨0, 0, 0, 0⟩ : Card) h j := by
  rw [gl_eq hi, gl_eq hj]
  exact fun e => hne ((List.getElem_inj H.nd).1 e)
def pr1 (h : List Card) (c : Card) (i j : Nat) : List (V2 Int) := if lineB (gl ⟨0, 0, 0, 0⟩ h i) (gl ⟨0, 0, 0, 0⟩ h j) c = true then [⟨i, j⟩] else []
def pr2 (h : List Card) (c : Card) (i : Nat) : List (V2 Int) := (List.range' (i + 1) (h.length - (i + 1))).flatMap (pr1 h c i)
def prs (h : List Card) (c : Card) : List (V2 Int) := (List.range' 0 (h.length - 0)).flatMap (pr2 h c)
def thr (h : List Card) (c : Card) : Nat := (prs h c).length
theorem pr1_len {h : List Card} {c : Card} {i j : Nat} : (pr1 h c i j).length ≤ 1 := by unfold pr1; split <;> simp
theorem pr2_len {h : List Card} {c : Card} {i : Nat} : (pr2 h c i).length ≤ h.length := by
  have := flen (l := List.range' (i + 1) (h.length - (i + 1))) (f := pr1 h c i) (M := 1) fun _ _ => pr1_len
  rw [List.length_range', Nat.mul_one] at this
  unfold pr2; omega
theorem thr_len {h : List Card} {c : Card} : thr h c ≤ h.length * h.length := by
  have := flen (l := List.range' 0 (h.length - 0)) (f := pr2 h c) (M := h.length) fun _ _ => pr2_len
  rw [List.length_range', Nat.sub_zero] at this
  unfold thr prs; exact this
theorem s_l2Through_eq {n : Nat} (hn : BIG ≤ n) {h : List Card} (H : HandL h) (c : Card) : s_l2Through n h c = some (thr h c : Int) := by
  have hl := H.len
  have hb := thr_len (h := h) (c := c)
  have hb2 : h.length * h.length ≤ 100 * 100 := Nat.mul_le_mul hl hl
  unfold s_l2Through
  have := fx_app (B := s_l2Through_L2 n) h.length (fun i a => (h, ((a.length : Nat) : Int), (i : Int), c)) (pr2 h c) (fun a => some ((a.length : Nat) : Int)) 1000000 (fun self i a hi hM => by
    simp only [s_l2Through_L2, lt_eq]
    rw [br_pos (decide_eq_true (show (i : Int) < (h.length : Int) by omega)), w64_succ (by omega)]
    refine fx_app (B := s_l2Through_L1 n self) h.length (fun j a => (h, ((a.length : Nat) : Int), (i : Int), (j : Int), c)) (pr1 h c i) (fun a => self (h, ((a.length : Nat) : Int), ((i + 1 : Nat) : Int), c)) 1000000 (fun self2 j a hj hM2 => ?_) (fun self2 a => by
      simp only [s_l2Through_L1, lt_eq]
      rw [br_neg (decide_eq_false (by omega)), w64_succ (by omega)]) n (i + 1) a (by omega) (big_gt hn (by omega)) (by unfold pr2 at hM; exact hM)
    simp only [s_l2Through_L1, lt_eq]
    rw [br_pos (decide_eq_true (show (j : Int) < (h.length : Int) by omega)), ckb_pos (inb_ok hi), ckb_pos (inb_ok hj), toNat_cast, toNat_cast, s_l2Line_eq hn c (gl_C H.c hi) (gl_C H.c hj), ob_some, w64_succ (k := j) (by omega), w64_succ (k := a.length) (by omega)]
    unfold pr1
    cases lineB (gl ⟨0, 0, 0, 0⟩ h i) (gl ⟨0, 0, 0, 0⟩ h j) c with
    | true => simp
    | false => simp) (fun self a => by
    simp only [s_l2Through_L2]
    rw [br_neg (decide_eq_false (by omega))]) n 0 [] (Nat.zero_le _) (big_gt hn (by omega)) (by unfold thr prs at hb; simp only [List.length_nil]; omega)
  rw [List.nil_append] at this
  exact this
theorem lineB_iff {a b c : Card} (ha : isC a = true) (hb : isC b = true) (hne : a ≠ b) : (if (if (!eqd a c) = true then !eqd b c else false) = true then eqd (third a b) c else false) = lineB a b c := by
  unfold lineB
  by_cases h : third a b = c
  · have h1 : a ≠ c := fun e => th_ne ha hb hne (h.trans e.symm)
    have h2 : b ≠ c := fun e => th_ne2 ha hb hne (h.trans e.symm)
    simp [eqd, h, h1, h2, hne]
  · simp [eqd, h]
theorem i_pairsFor_eq {n : Nat} (hn : BIG ≤ n) {h : List Card} (H : HandL h) (c : Card) : i_pairsFor n h c = some (prs h c) := by
  have hl := H.len
  have hb := thr_len (h := h) (c := c)
  have hb2 : h.length * h.length ≤ 100 * 100 := Nat.mul_le_mul hl hl
  unfold i_pairsFor
  have := fx_app (B := i_pairsFor_L2 n) h.length (fun i a => (h, h, (h.length : Int), (i : Int), c, a)) (pr2 h c) some 1000000 (fun self i a hi hM => by
    simp only [i_pairsFor_L2, lt_eq]
    rw [br_pos (decide_eq_true (show (i : Int) < (h.length : Int) by omega)), w64_succ (by omega), ckb_pos (inb_ok hi), toNat_cast]
    refine fx_app (B := i_pairsFor_L1 n self) h.length (fun j a => (h, (i : Int), (j : Int), h, (h.length : Int), (i : Int), c, a, gl ⟨0, 0, 0, 0⟩ h i)) (pr1 h c i) (fun a => self (h, h, (h.length : Int), ((i + 1 : Nat) : Int), c, a)) 1000000 (fun self2 j a hj hM2 => ?_) (fun self2 a => by
      simp only [i_pairsFor_L1, lt_eq]
      rw [br_neg (decide_eq_false (by omega)), w64_succ (by omega)]) n (i + 1) a (by omega) (big_gt hn (by omega)) (by unfold pr2 at hM; exact hM)
    simp only [i_pairsFor_L1, lt_eq]
    rw [br_pos (decide_eq_true (show (j : Int) < (h.length : Int) by omega)), inb_ok hj, toNat_cast, i_third_eq hn (gl_C H.c hi) (gl_C H.c hj), w64_succ (k := j) (by omega)]
    simp only [ckb_true, ob_some, br_some]
    unfold pr1 at hM2 ⊢
    by_cases hij : i = j
    · subst hij
      have e1 : lineB (gl ⟨0, 0, 0, 0⟩ h i) (gl ⟨0, 0, 0, 0⟩ h i) c = false := by unfold lineB; simp
      have e2 : (if (if (!eqd (gl ⟨0, 0, 0, 0⟩ h i) c) = true then !eqd (gl ⟨0, 0, 0, 0⟩ h i) c else false) = true then eqd (third (gl ⟨0, 0, 0, 0⟩ h i) (gl ⟨0, 0, 0, 0⟩ h i)) c else false) = false := by
        rw [th_self (gl_C H.c hi)]
        cases eqd (gl ⟨0, 0, 0, 0⟩ h i) c <;> simp
      rw [e2, e1]; simp
    · rw [lineB_iff (gl_C H.c hi) (gl_C H.c hj) (H.ne hi hj hij)]
      cases hx : lineB (gl ⟨0, 0, 0, 0⟩ h i) (gl ⟨0, 0, 0, 0⟩ h j) c with
      | true =>
        rw [hx] at hM2
        simp only [if_true, List.length_singleton] at hM2
        rw [br_true, ckb_pos (apok_ok (by omega) (by omega))]; simp
      | false => simp) (fun self a => by
    simp only [i_pairsFor_L2]
    rw [br_neg (decide_eq_false (by omega))]) n 0 [] (Nat.zero_le _) (big_gt hn (by omega)) (by unfold thr prs at hb; simp only [List.length_nil]; omega)
  rw [List.nil_append] at this
  exact this
theorem i_isBlocked_eq {n : Nat} (hn : BIG ≤ n) {h : List Card} (H : HandL h) (c : Card) : i_isBlocked n h c = some (decide (0 < thr h c)) := by
  unfold i_isBlocked
  rw [i_pairsFor_eq hn H, ob_some]
  congr 1; congr 1; apply propext; unfold thr; omega
def outOK (h : List Card) (b : Bool) (k : Nat) : Bool := !h.contains (cardAt k) && (decide (0 < thr h (cardAt k)) == b)
def outs (h : List Card) (b : Bool) : List Int := (List.range' 0 (81 - 0)).flatMap fun k => if outOK h b k = true then [(k : Int)] else []
theorem outs_len {h : List Card} {b : Bool} : (outs h b).length ≤ 81 := by
  have := flen (l := List.range' 0 (81 - 0)) (f := fun k => if outOK h b k = true then [(k : Int)] else []) (M := 1) fun k _ => by split <;> simp
  rw [List.length_range'] at this
  unfold outs; omega
theorem i_outside_eq {n : Nat} (hn : BIG ≤ n) {h : List Card} (H : HandL h) (b : Bool) : i_outside n h b = some (outs h b) := by
  have hl := H.len
  have hb := outs_len (h := h) (b := b)
  unfold i_outside
  have := fx_app (B := i_outside_L1 n) 81 (fun i a => (h, b, (i : Int), a)) (fun k => if outOK h b k = true then [(k : Int)] else []) some 1000000 (fun self i a hi hM => by
    simp only [i_outside_L1, lt_eq]
    rw [br_pos (decide_eq_true (show (i : Int) < 81 by omega)), i_card_eq n (by omega), ob_some, i_has_eq hn (by omega), ob_some, i_isBlocked_eq hn H, ob_some, w64_succ (by omega)]
    simp only [br_some, ob_some]
    have e : (if (!h.contains (cardAt (i : Int))) = true then decide (0 < thr h (cardAt (i : Int))) == b else false) = outOK h b i := by
      unfold outOK; cases h.contains (cardAt (i : Int)) <;> simp
    rw [e]
    cases ho : outOK h b i with
    | true =>
      rw [ho] at hM
      simp only [if_true, List.length_singleton] at hM
      rw [br_true, ckb_pos (apok_ok (by omega) (by omega))]; simp
    | false => simp) (fun self a => by
    simp only [i_outside_L1]
    rw [br_neg (decide_eq_false (show ¬ ((81 : Nat) : Int) < 81 by omega))]) n 0 [] (Nat.zero_le _) (big_gt hn (by omega)) (by unfold outs at hb; simp only [List.length_nil]; omega)
  rw [List.nil_append] at this
  exact this
theorem s_l3Cards_eq {n : Nat} (hn : BIG ≤ n) {h : List Card} (H : HandL h) (b : Bool) : s_l3Cards n h b = some (outs h b) := by
  have hl := H.len
  have hb := outs_len (h := h) (b := b)
  unfold s_l3Cards
  have := fx_app (B := s_l3Cards_L1 n) 81 (fun i a => (h, b, (i : Int), a)) (fun k => if outOK h b k = true then [(k : Int)] else []) some 1000000 (fun self i a hi hM => by
    simp only [s_l3Cards_L1, lt_eq]
    rw [br_pos (decide_eq_true (show (i : Int) < 81 by omega)), s_l2At_eq n (by omega), ob_some, s_l2Has_eq hn (by omega), ob_some, s_l2Through_eq hn H, ob_some, w64_succ (by omega)]
    simp only [br_some, ob_some]
    have e : (if (!h.contains (cardAt (i : Int))) = true then decide (0 < (thr h (cardAt (i : Int)) : Int)) == b else false) = outOK h b i := by
      unfold outOK
      have : decide (0 < (thr h (cardAt (i : Int)) : Int)) = decide (0 < thr h (cardAt (i : Int))) := by congr 1; apply propext; omega
      rw [this]; cases h.contains (cardAt (i : Int)) <;> simp
    rw [e]
    cases ho : outOK h b i with
    | true =>
      rw [ho] at hM
      simp only [if_true, List.length_singleton] at hM
      rw [br_true, ckb_pos (apok_ok (by omega) (by omega))]; simp
    | false => simp) (fun self a => by
    simp only [s_l3Cards_L1]
    rw [br_neg (decide_eq_false (show ¬ ((81 : Nat) : Int) < 81 by omega))]) n 0 [] (Nat.zero_le _) (big_gt hn (by omega)) (by unfold outs at hb; simp only [List.length_nil]; omega)
  rw [List.nil_append] at this
  exact this
end Go.Pl

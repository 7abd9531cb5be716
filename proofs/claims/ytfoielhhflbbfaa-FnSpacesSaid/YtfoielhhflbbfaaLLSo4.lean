/- Plain laws: LSo4. -/
import Derived.Test.YtfoielhhflbbfaaLLSo3
set_option linter.unusedVariables false
set_option linter.unusedSimpArgs false
namespace Go.Pl
open Go Go.Tv Go.RowKit
set_option linter.unusedVariables false
structure PI (a b i j : Nat) (d0 d : List Card) : Prop where
  ai : a < i
  ij : i ≤ j + 1
  jb : j < b
  sw : Sw a b d0 d
  lo : ∀ k, a < k → k < i → nm d k < nm d a
  hi : ∀ k, j < k → k < b → nm d a ≤ nm d k
def PQ (a b : Nat) (d0 : List Card) (o : Opt (Int × Bool × List Card)) : Prop := ∃ (m : Nat) (f : Bool) (d : List Card), o = some ((m : Int), f, d) ∧ a ≤ m ∧ m < b ∧ Sw a b d0 d ∧ (∀ k, a ≤ k → k < m → nm d k < nm d m) ∧ ∀ k, m < k → k < b → nm d m ≤ nm d k
section
variable {a b i j : Nat} {d0 d : List Card}
theorem PI.up (I : PI a b i j d0 d) (h : i ≤ j) (hl : nm d i < nm d a) : PI a b (i + 1) j d0 d :=
  ⟨by have := I.ai; omega, by omega, I.jb, I.sw, fun k h1 h2 => by
    by_cases hk : k = i
    · subst hk; exact hl
    · exact I.lo k h1 (by omega), I.hi⟩
theorem PI.down (I : PI a b i j d0 d) (h : i ≤ j) (hl : nm d a ≤ nm d j) : PI a b i (j - 1) d0 d := by
  have := I.ai; have := I.jb
  exact ⟨I.ai, by omega, by omega, I.sw, I.lo, fun k h1 h2 => by
    by_cases hk : k = j
    · subst hk; exact hl
    · exact I.hi k (by omega) h2⟩
theorem PI.swap (I : PI a b i j d0 d) (hb : b ≤ d0.length) (h : i < j) (h1 : nm d a ≤ nm d i) (h2 : nm d j < nm d a) : PI a b (i + 1) (j - 1) d0 (swc d i j) := by
  have := I.ai; have := I.jb; have := I.sw.len
  have l1 : i < d.length := by omega
  have l2 : j < d.length := by omega
  have ea : nm (swc d i j) a = nm d a := nso l1 l2 (by omega) (by omega)
  refine ⟨by omega, by omega, by omega, .step I.sw _ _ (by omega) (by omega) (by omega) (by omega) hb, fun k k1 k2 => ?_, fun k k1 k2 => ?_⟩
  · rw [ea]
    by_cases hk : k = i
    · subst hk; rw [nsi l1 l2]; exact h2
    · rw [nso l1 l2 hk (by omega)]; exact I.lo k k1 (by omega)
  · rw [ea]
    by_cases hk : k = j
    · subst hk; rw [nsj l1 l2]; exact h1
    · rw [nso l1 l2 (by omega) hk]; exact I.hi k (by omega) k2
theorem PI.fin (I : PI a b i j d0 d) (hb : b ≤ d0.length) (h : j < i) (f : Bool) : PQ a b d0 (some ((j : Int), f, swc d j a)) := by
  have := I.ai; have := I.jb; have := I.sw.len; have := I.ij
  have l1 : j < d.length := by omega
  have l2 : a < d.length := by omega
  refine ⟨j, f, _, rfl, by omega, I.jb, .step I.sw _ _ (by omega) (by omega) (by omega) (by omega) hb, fun k k1 k2 => ?_, fun k k1 k2 => ?_⟩
  · rw [nsi l1 l2]
    by_cases hk : k = a
    · subst hk; rw [nsj l1 l2]; exact I.lo j k2 h
    · rw [nso l1 l2 (by omega) hk]; exact I.lo k (by omega) (by omega)
  · rw [nsi l1 l2, nso l1 l2 (by omega) (by omega)]; exact I.hi k k1 k2
end
theorem part_L1 {n : Nat} (hn : BIG ≤ n) {a b i : Nat} {d0 : List Card} (hd0 : AllC d0) (hb : b ≤ d0.length) (hl : d0.length ≤ 1000000) (go : Int × Int × Int × List Card → Opt (Int × Bool × List Card)) {j : Nat} {d : List Card} (I : PI a b i j d0 d)
    (hI : i ≤ j → nm d a ≤ nm d i) (ih : ∀ j' e, PI a b (i + 1) j' d0 e → j' < j → PQ a b d0 (go ((a : Int), ((i + 1 : Nat) : Int), (j' : Int), e))) :
    PQ a b d0 (fx (slices_partitionCmpFunc_A4_'o_i_compareCards_L1 n go) n ((a : Int), (i : Int), (j : Int), d)) := by
  have hai := I.ai; have hjb := I.jb
  refine fx_inv (B := slices_partitionCmpFunc_A4_'o_i_compareCards_L1 n go) (fun s => ∃ (j' : Nat), s = ((a : Int), (i : Int), (j' : Int), d) ∧ j' ≤ j ∧ PI a b i j' d0 d ∧ (i ≤ j' → nm d a ≤ nm d i))
    (fun s => s.2.2.1.toNat) (PQ a b d0) ?_ n _ ⟨j, rfl, Nat.le_refl _, I, hI⟩ (big_gt hn (by simp only []; omega))
  clear I hI hjb
  rintro self _ ⟨j', rfl, hj', I, hI⟩ ih2
  have hlen := I.sw.len; have hC := I.sw.allC hd0; have hjb := I.jb; have hij := I.ij
  simp only [slices_partitionCmpFunc_A4_'o_i_compareCards_L1, lt_eq]
  by_cases hle : i ≤ j'
  · rw [br_pos (decide_eq_true (show (i : Int) ≤ (j' : Int) by omega)), ckb_pos (inb_ok (by omega)), ckb_pos (inb_ok (by omega)), toNat_cast, toNat_cast, toNat_cast, cmp_at hn hC (by omega) (by omega), ob_some, ob_some]
    by_cases hlt : nm d j' - nm d a < 0
    · rw [br_neg (show (!decide (nm d j' - nm d a < 0)) = false by rw [decide_eq_true hlt]; rfl), br_neg (decide_eq_false (show ¬ (j' : Int) < (i : Int) by omega)),
        ckb_pos (inb_ok (by omega)), ckb_pos (inb_ok (by omega)), ckb_pos (inb_ok (by omega)), ckb_pos (inb_ok (by rw [List.length_set]; omega)), w64_succ (by omega), w64_pred (by omega) (by omega)]
      have hne : i ≠ j' := fun e => by subst e; have := hI hle; omega
      exact ih (j' - 1) _ (I.swap hb (by omega) (hI hle) (by omega)) (by omega)
    · rw [br_pos (show (!decide (nm d j' - nm d a < 0)) = true by rw [decide_eq_false hlt]; rfl), w64_pred (by omega) (by omega)]
      exact ih2 _ ⟨j' - 1, rfl, by omega, I.down hle (by omega), fun h => hI (by omega)⟩ (by simp only []; omega)
  · rw [br_neg (decide_eq_false (show ¬ (i : Int) ≤ (j' : Int) by omega)), ob_some, br_false, br_pos (decide_eq_true (show (j' : Int) < (i : Int) by omega)),
      ckb_pos (inb_ok (by omega)), ckb_pos (inb_ok (by omega)), ckb_pos (inb_ok (by omega)), ckb_pos (inb_ok (by rw [List.length_set]; omega))]
    exact I.fin hb (by omega) false
theorem part_L3 {n : Nat} (hn : BIG ≤ n) {a b : Nat} {d0 : List Card} (hd0 : AllC d0) (hb : b ≤ d0.length) (hl : d0.length ≤ 1000000) {i j : Nat} {d : List Card} (I : PI a b i j d0 d) :
    PQ a b d0 (fx (slices_partitionCmpFunc_A4_'o_i_compareCards_L3 n) n ((a : Int), (i : Int), (j : Int), d)) := by
  have hai := I.ai; have hjb := I.jb
  refine fx_inv (B := slices_partitionCmpFunc_A4_'o_i_compareCards_L3 n) (fun s => ∃ (i j : Nat) (d : List Card), s = ((a : Int), (i : Int), (j : Int), d) ∧ PI a b i j d0 d)
    (fun s => s.2.2.1.toNat) (PQ a b d0) ?_ n _ ⟨i, j, d, rfl, I⟩ (big_gt hn (by simp only []; omega))
  clear I hai hjb i j d
  rintro self _ ⟨i, j, d, rfl, I⟩ ih
  simp only [slices_partitionCmpFunc_A4_'o_i_compareCards_L3]
  have hjb := I.jb; have hij := I.ij
  refine fx_inv (B := slices_partitionCmpFunc_A4_'o_i_compareCards_L2 n self) (fun s => ∃ (i : Nat), s = ((a : Int), (i : Int), (j : Int), d) ∧ PI a b i j d0 d)
    (fun s => 2000000 - s.2.1.toNat) (PQ a b d0) ?_ n _ ⟨i, rfl, I⟩ (big_gt hn (by simp only []; omega))
  clear I hij
  rintro self2 _ ⟨i, rfl, I⟩ ih2
  have hlen := I.sw.len; have hC := I.sw.allC hd0; have hai := I.ai; have hij := I.ij
  simp only [slices_partitionCmpFunc_A4_'o_i_compareCards_L2, lt_eq]
  by_cases hle : i ≤ j
  · rw [br_pos (decide_eq_true (show (i : Int) ≤ (j : Int) by omega)), ckb_pos (inb_ok (by omega)), ckb_pos (inb_ok (by omega)), toNat_cast, toNat_cast, cmp_at hn hC (by omega) (by omega), ob_some, ob_some]
    by_cases hlt : nm d i - nm d a < 0
    · rw [br_pos (decide_eq_true hlt), w64_succ (by omega)]
      exact ih2 _ ⟨i + 1, rfl, I.up hle (by omega)⟩ (by simp only []; omega)
    · rw [br_neg (decide_eq_false hlt)]
      exact part_L1 hn hd0 hb hl self I (fun _ => by omega) fun j' e hI hj' => ih _ ⟨i + 1, j', e, rfl, hI⟩ (by simp only []; omega)
  · rw [br_neg (decide_eq_false (show ¬ (i : Int) ≤ (j : Int) by omega)), ob_some, br_false]
    exact part_L1 hn hd0 hb hl self I (fun h => absurd h hle) fun j' e hI hj' => ih _ ⟨i + 1, j', e, rfl, hI⟩ (by simp only []; omega)
theorem part_L4 {n : Nat} (hn : BIG ≤ n) {a b i : Nat} {d0 : List Card} (hd0 : AllC d0) (hb : b ≤ d0.length) (hl : d0.length ≤ 1000000) {j : Nat} {d : List Card} (I : PI a b i j d0 d)
    (hI : i ≤ j → nm d a ≤ nm d i) : PQ a b d0 (fx (slices_partitionCmpFunc_A4_'o_i_compareCards_L4 n) n ((a : Int), (i : Int), (j : Int), d)) := by
  have hai := I.ai; have hjb := I.jb
  refine fx_inv (B := slices_partitionCmpFunc_A4_'o_i_compareCards_L4 n) (fun s => ∃ (j' : Nat), s = ((a : Int), (i : Int), (j' : Int), d) ∧ PI a b i j' d0 d ∧ (i ≤ j' → nm d a ≤ nm d i))
    (fun s => s.2.2.1.toNat) (PQ a b d0) ?_ n _ ⟨j, rfl, I, hI⟩ (big_gt hn (by simp only []; omega))
  clear I hI hjb j
  rintro self _ ⟨j', rfl, I, hI⟩ ih2
  have hlen := I.sw.len; have hC := I.sw.allC hd0; have hjb := I.jb; have hij := I.ij
  simp only [slices_partitionCmpFunc_A4_'o_i_compareCards_L4, lt_eq]
  by_cases hle : i ≤ j'
  · rw [br_pos (decide_eq_true (show (i : Int) ≤ (j' : Int) by omega)), ckb_pos (inb_ok (by omega)), ckb_pos (inb_ok (by omega)), toNat_cast, toNat_cast, toNat_cast, cmp_at hn hC (by omega) (by omega), ob_some, ob_some]
    by_cases hlt : nm d j' - nm d a < 0
    · rw [br_neg (show (!decide (nm d j' - nm d a < 0)) = false by rw [decide_eq_true hlt]; rfl), br_neg (decide_eq_false (show ¬ (j' : Int) < (i : Int) by omega)),
        ckb_pos (inb_ok (by omega)), ckb_pos (inb_ok (by omega)), ckb_pos (inb_ok (by omega)), ckb_pos (inb_ok (by rw [List.length_set]; omega)), w64_succ (by omega), w64_pred (by omega) (by omega)]
      have hne : i ≠ j' := fun e => by subst e; have := hI hle; omega
      exact part_L3 hn hd0 hb hl (I.swap hb (by omega) (hI hle) (by omega))
    · rw [br_pos (show (!decide (nm d j' - nm d a < 0)) = true by rw [decide_eq_false hlt]; rfl), w64_pred (by omega) (by omega)]
      exact ih2 _ ⟨j' - 1, rfl, I.down hle (by omega), fun h => hI (by omega)⟩ (by simp only []; omega)
  · rw [br_neg (decide_eq_false (show ¬ (i : Int) ≤ (j' : Int) by omega)), ob_some, br_false, br_pos (decide_eq_true (show (j' : Int) < (i : Int) by omega)),
      ckb_pos (inb_ok (by omega)), ckb_pos (inb_ok (by omega)), ckb_pos (inb_ok (by omega)), ckb_pos (inb_ok (by rw [List.length_set]; omega))]
    exact I.fin hb (by omega) true
theorem part_ok {n : Nat} (hn : BIG ≤ n) {a b p : Nat} {d0 : List Card} (hd0 : AllC d0) (hb : b ≤ d0.length) (hl : d0.length ≤ 1000000) (hp : a ≤ p) (hpb : p < b) :
    PQ a b d0 (slices_partitionCmpFunc_A4_'o_i_compareCards n a b p d0) := by
  unfold slices_partitionCmpFunc_A4_'o_i_compareCards
  simp only [lt_eq]
  rw [ckb_pos (inb_ok (by omega)), ckb_pos (inb_ok (by omega)), ckb_pos (inb_ok (by omega)), ckb_pos (inb_ok (by rw [List.length_set]; omega)), w64_succ (by omega), w64_pred (by omega) (by omega), toNat_cast, toNat_cast]
  have I0 : PI a b (a + 1) (b - 1) d0 (swc d0 a p) := ⟨by omega, by omega, by omega, .step .refl _ _ (by omega) (by omega) (by omega) (by omega) hb, fun k h1 h2 => by omega, fun k h1 h2 => by omega⟩
  refine fx_inv (B := slices_partitionCmpFunc_A4_'o_i_compareCards_L5 n) (fun s => ∃ (i : Nat), s = ((a : Int), (i : Int), ((b - 1 : Nat) : Int), swc d0 a p) ∧ PI a b i (b - 1) d0 (swc d0 a p))
    (fun s => 2000000 - s.2.1.toNat) (PQ a b d0) ?_ n _ ⟨a + 1, rfl, I0⟩ (big_gt hn (by simp only []; omega))
  rintro self _ ⟨i, rfl, I⟩ ih
  have hlen := I.sw.len; have hC := I.sw.allC hd0; have hai := I.ai; have hij := I.ij
  simp only [slices_partitionCmpFunc_A4_'o_i_compareCards_L5, lt_eq]
  by_cases hle : i ≤ b - 1
  · rw [br_pos (decide_eq_true (show (i : Int) ≤ ((b - 1 : Nat) : Int) by omega)), ckb_pos (inb_ok (by omega)), ckb_pos (inb_ok (by omega)), toNat_cast, toNat_cast, cmp_at hn hC (by omega) (by omega), ob_some, ob_some]
    by_cases hlt : nm (swc d0 a p) i - nm (swc d0 a p) a < 0
    · rw [br_pos (decide_eq_true hlt), w64_succ (by omega)]
      exact ih _ ⟨i + 1, rfl, I.up hle (by omega)⟩ (by simp only []; omega)
    · rw [br_neg (decide_eq_false hlt)]
      exact part_L4 hn hd0 hb hl I (fun _ => by omega)
  · rw [br_neg (decide_eq_false (show ¬ (i : Int) ≤ ((b - 1 : Nat) : Int) by omega)), ob_some, br_false]
    exact part_L4 hn hd0 hb hl I (fun h => absurd h hle)
structure EI (a b i j : Nat) (d0 d : List Card) : Prop where
  ai : a < i
  ij : i ≤ j + 1
  jb : j < b
  sw : Sw a b d0 d
  mn : ∀ k, a ≤ k → k < b → nm d a ≤ nm d k
  lo : ∀ k, a < k → k < i → nm d k ≤ nm d a
  hi : ∀ k, j < k → k < b → nm d a < nm d k
def EQ (a b : Nat) (d0 : List Card) (o : Opt (Int × List Card)) : Prop := ∃ (m : Nat) (d : List Card), o = some ((m : Int), d) ∧ a < m ∧ m ≤ b ∧ Sw a b d0 d ∧ ∀ k, a ≤ k → k < m → ∀ q, a ≤ q → q < b → nm d k ≤ nm d q
section
variable {a b i j : Nat} {d0 d : List Card}
theorem EI.up (I : EI a b i j d0 d) (h : i ≤ j) (hl : nm d i ≤ nm d a) : EI a b (i + 1) j d0 d :=
  ⟨by have := I.ai; omega, by omega, I.jb, I.sw, I.mn, fun k h1 h2 => by
    by_cases hk : k = i
    · subst hk; exact hl
    · exact I.lo k h1 (by omega), I.hi⟩
theorem EI.down (I : EI a b i j d0 d) (h : i ≤ j) (hl : nm d a < nm d j) : EI a b i (j - 1) d0 d := by
  have := I.ai; have := I.jb
  exact ⟨I.ai, by omega, by omega, I.sw, I.mn, I.lo, fun k h1 h2 => by
    by_cases hk : k = j
    · subst hk; exact hl
    · exact I.hi k (by omega) h2⟩
theorem EI.swap (I : EI a b i j d0 d) (hb : b ≤ d0.length) (h : i < j) (h1 : nm d a < nm d i) (h2 : nm d j ≤ nm d a) : EI a b (i + 1) (j - 1) d0 (swc d i j) := by
  have := I.ai; have := I.jb; have := I.sw.len
  have l1 : i < d.length := by omega
  have l2 : j < d.length := by omega
  have ea : nm (swc d i j) a = nm d a := nso l1 l2 (by omega) (by omega)
  refine ⟨by omega, by omega, by omega, .step I.sw _ _ (by omega) (by omega) (by omega) (by omega) hb, ?_, fun k k1 k2 => ?_, fun k k1 k2 => ?_⟩
  · rw [ea]
    have hl : b ≤ d.length := by omega
    exact (Sw.step (a := a) (b := b) (d := d) .refl i j (by omega) (by omega) (by omega) (by omega) hl).all (P := fun x => nm d a ≤ x) I.mn
  · rw [ea]
    by_cases hk : k = i
    · subst hk; rw [nsi l1 l2]; exact h2
    · rw [nso l1 l2 hk (by omega)]; exact I.lo k k1 (by omega)
  · rw [ea]
    by_cases hk : k = j
    · subst hk; rw [nsj l1 l2]; exact h1
    · rw [nso l1 l2 (by omega) hk]; exact I.hi k (by omega) k2
theorem EI.fin (I : EI a b i j d0 d) (h : j < i) : EQ a b d0 (some ((i : Int), d)) := by
  have := I.ai; have := I.jb; have := I.ij
  refine ⟨i, d, rfl, I.ai, by omega, I.sw, fun k k1 k2 q q1 q2 => ?_⟩
  have := I.mn q q1 q2
  by_cases hk : k = a
  · subst hk; exact this
  · have := I.lo k (by omega) k2; omega
end
theorem eq_L1 {n : Nat} (hn : BIG ≤ n) {a b i : Nat} {d0 : List Card} (hd0 : AllC d0) (hb : b ≤ d0.length) (hl : d0.length ≤ 1000000) (go : Int × Int × Int × List Card → Opt (Int × List Card)) {j : Nat} {d : List Card} (I : EI a b i j d0 d)
    (hI : i ≤ j → nm d a < nm d i) (ih : ∀ j' e, EI a b (i + 1) j' d0 e → j' < j → EQ a b d0 (go ((a : Int), ((i + 1 : Nat) : Int), (j' : Int), e))) :
    EQ a b d0 (fx (slices_partitionEqualCmpFunc_A4_'o_i_compareCards_L1 n go) n ((a : Int), (i : Int), (j : Int), d)) := by
  have hai := I.ai; have hjb := I.jb
  refine fx_inv (B := slices_partitionEqualCmpFunc_A4_'o_i_compareCards_L1 n go) (fun s => ∃ (j' : Nat), s = ((a : Int), (i : Int), (j' : Int), d) ∧ j' ≤ j ∧ EI a b i j' d0 d ∧ (i ≤ j' → nm d a < nm d i))
    (fun s => s.2.2.1.toNat) (EQ a b d0) ?_ n _ ⟨j, rfl, Nat.le_refl _, I, hI⟩ (big_gt hn (by simp only []; omega))
  clear I hI hjb
  rintro self _ ⟨j', rfl, hj', I, hI⟩ ih2
  have hlen := I.sw.len; have hC := I.sw.allC hd0; have hjb := I.jb; have hij := I.ij
  simp only [slices_partitionEqualCmpFunc_A4_'o_i_compareCards_L1, lt_eq]
  by_cases hle : i ≤ j'
  · rw [br_pos (decide_eq_true (show (i : Int) ≤ (j' : Int) by omega)), ckb_pos (inb_ok (by omega)), ckb_pos (inb_ok (by omega)), toNat_cast, toNat_cast, toNat_cast, cmp_at hn hC (by omega) (by omega), ob_some, ob_some]
    by_cases hlt : nm d a - nm d j' < 0
    · rw [br_pos (decide_eq_true hlt), w64_pred (by omega) (by omega)]
      exact ih2 _ ⟨j' - 1, rfl, by omega, I.down hle (by omega), fun h => hI (by omega)⟩ (by simp only []; omega)
    · rw [br_neg (decide_eq_false hlt), br_neg (decide_eq_false (show ¬ (j' : Int) < (i : Int) by omega)),
        ckb_pos (inb_ok (by omega)), ckb_pos (inb_ok (by omega)), ckb_pos (inb_ok (by omega)), ckb_pos (inb_ok (by rw [List.length_set]; omega)), w64_succ (by omega), w64_pred (by omega) (by omega)]
      have hne : i ≠ j' := fun e => by subst e; have := hI hle; omega
      exact ih (j' - 1) _ (I.swap hb (by omega) (hI hle) (by omega)) (by omega)
  · rw [br_neg (decide_eq_false (show ¬ (i : Int) ≤ (j' : Int) by omega)), ob_some, br_false, br_pos (decide_eq_true (show (j' : Int) < (i : Int) by omega))]
    exact I.fin (by omega)
theorem eq_ok {n : Nat} (hn : BIG ≤ n) {a b p : Nat} {d0 : List Card} (hd0 : AllC d0) (hb : b ≤ d0.length) (hl : d0.length ≤ 1000000) (hp : a ≤ p) (hpb : p < b) (hmin : ∀ k, a ≤ k → k < b → nm d0 p ≤ nm d0 k) :
    EQ a b d0 (slices_partitionEqualCmpFunc_A4_'o_i_compareCards n a b p d0) := by
  unfold slices_partitionEqualCmpFunc_A4_'o_i_compareCards
  simp only [lt_eq]
  rw [ckb_pos (inb_ok (by omega)), ckb_pos (inb_ok (by omega)), ckb_pos (inb_ok (by omega)), ckb_pos (inb_ok (by rw [List.length_set]; omega)), w64_succ (by omega), w64_pred (by omega) (by omega), toNat_cast, toNat_cast]
  have hsw : Sw a b d0 (swc d0 a p) := .step .refl _ _ (by omega) (by omega) (by omega) (by omega) hb
  have ea : nm (swc d0 a p) a = nm d0 p := nsi (by omega) (by omega)
  have I0 : EI a b (a + 1) (b - 1) d0 (swc d0 a p) := ⟨by omega, by omega, by omega, hsw, by rw [ea]; exact hsw.all (P := fun x => nm d0 p ≤ x) hmin, fun k h1 h2 => by omega, fun k h1 h2 => by omega⟩
  refine fx_inv (B := slices_partitionEqualCmpFunc_A4_'o_i_compareCards_L3 n) (fun s => ∃ (i j : Nat) (d : List Card), s = ((a : Int), (i : Int), (j : Int), d) ∧ EI a b i j d0 d)
    (fun s => s.2.2.1.toNat) (EQ a b d0) ?_ n _ ⟨a + 1, b - 1, _, rfl, I0⟩ (big_gt hn (by simp only []; omega))
  clear I0 hsw ea
  rintro self _ ⟨i, j, d, rfl, I⟩ ih
  simp only [slices_partitionEqualCmpFunc_A4_'o_i_compareCards_L3]
  have hjb := I.jb; have hij := I.ij
  refine fx_inv (B := slices_partitionEqualCmpFunc_A4_'o_i_compareCards_L2 n self) (fun s => ∃ (i : Nat), s = ((a : Int), (i : Int), (j : Int), d) ∧ EI a b i j d0 d)
    (fun s => 2000000 - s.2.1.toNat) (EQ a b d0) ?_ n _ ⟨i, rfl, I⟩ (big_gt hn (by simp only []; omega))
  clear I hij
  rintro self2 _ ⟨i, rfl, I⟩ ih2
  have hlen := I.sw.len; have hC := I.sw.allC hd0; have hai := I.ai; have hij := I.ij
  simp only [slices_partitionEqualCmpFunc_A4_'o_i_compareCards_L2, lt_eq]
  by_cases hle : i ≤ j
  · rw [br_pos (decide_eq_true (show (i : Int) ≤ (j : Int) by omega)), ckb_pos (inb_ok (by omega)), ckb_pos (inb_ok (by omega)), toNat_cast, toNat_cast, cmp_at hn hC (by omega) (by omega), ob_some, ob_some]
    by_cases hlt : nm d a - nm d i < 0
    · rw [br_neg (show (!decide (nm d a - nm d i < 0)) = false by rw [decide_eq_true hlt]; rfl)]
      exact eq_L1 hn hd0 hb hl self I (fun _ => by omega) fun j' e hI hj' => ih _ ⟨i + 1, j', e, rfl, hI⟩ (by simp only []; omega)
    · rw [br_pos (show (!decide (nm d a - nm d i < 0)) = true by rw [decide_eq_false hlt]; rfl), w64_succ (by omega)]
      exact ih2 _ ⟨i + 1, rfl, I.up hle (by omega)⟩ (by simp only []; omega)
  · rw [br_neg (decide_eq_false (show ¬ (i : Int) ≤ (j : Int) by omega)), ob_some, br_false]
    exact eq_L1 hn hd0 hb hl self I (fun h => absurd h hle) fun j' e hI hj' => ih _ ⟨i + 1, j', e, rfl, hI⟩ (by simp only []; omega)
end Go.Pl

/- Plain laws: L7, LLn, LLa, LLb. -/
import Derived.Test.YtfoielhhflbbfaaG0
import Derived.Test.YtfoielhhflbbfaaG1
import Derived.Test.YtfoielhhflbbfaaPL
set_option linter.unusedVariables false
set_option linter.unusedSimpArgs false
namespace Go.Pl
open Go Go.Tv Go.RowKit
abbrev Ln := V3 Int
def eqn (x : Int) (b : Ln) (j : Nat) : Nat := if x = V3.get b j then 1 else 0
def eqs (x : Int) (b : Ln) : Nat := ((List.range' 0 (3 - 0)).map (eqn x b)).sum
def common (a b : Ln) : Nat := ((List.range' 0 (3 - 0)).map fun i => eqs (V3.get a i) b).sum
def meets (a b : Ln) : Bool := (V3.els a).any fun x => (V3.els b).contains x
theorem eqs_val (x : Int) (b : Ln) : eqs x b = eqn x b 0 + eqn x b 1 + eqn x b 2 := by
  unfold eqs; simp [List.range'_succ]; omega
theorem eqn_le (x : Int) (b : Ln) (j : Nat) : eqn x b j ≤ 1 := by unfold eqn; split <;> omega
theorem eqs_le (x : Int) (b : Ln) : eqs x b ≤ 3 := by
  rw [eqs_val]; have := eqn_le x b 0; have := eqn_le x b 1; have := eqn_le x b 2; omega
theorem eqn_one (x : Int) (b : Ln) (j : Nat) : eqn x b j = 1 ↔ x = V3.get b j := by unfold eqn; split <;> simp [*]
theorem eqs_pos (x : Int) (b : Ln) : (0 < eqs x b) ↔ (V3.els b).contains x = true := by
  rw [eqs_val]
  have e0 := eqn_one x b 0; have e1 := eqn_one x b 1; have e2 := eqn_one x b 2
  have l0 := eqn_le x b 0; have l1 := eqn_le x b 1; have l2 := eqn_le x b 2
  simp only [V3.get] at e0 e1 e2
  simp only [V3.els, List.contains_cons, List.contains_nil, Bool.or_false, Bool.or_eq_true, beq_iff_eq]
  rw [← e0, ← e1, ← e2]; omega
theorem common_val (a b : Ln) : common a b = eqs a.x0 b + eqs a.x1 b + eqs a.x2 b := by
  unfold common; simp [List.range'_succ, V3.get]; omega
theorem common_le (a b : Ln) : common a b ≤ 9 := by
  rw [common_val]; have := eqs_le a.x0 b; have := eqs_le a.x1 b; have := eqs_le a.x2 b; omega
theorem common_pos (a b : Ln) : decide ((0 : Int) < (common a b : Int)) = meets a b := by
  have h0 := eqs_pos a.x0 b; have h1 := eqs_pos a.x1 b; have h2 := eqs_pos a.x2 b
  have : meets a b = true ↔ 0 < common a b := by
    rw [common_val]
    unfold meets
    simp only [V3.els, List.any_cons, List.any_nil, Bool.or_false, Bool.or_eq_true] at h0 h1 h2 ⊢
    rw [← h0, ← h1, ← h2]; omega
  rw [Bool.eq_iff_iff, decide_eq_true_eq, this]; omega
theorem s_l7Common_eq {n : Nat} (hn : BIG ≤ n) (a b : Ln) : s_l7Common n a b = some (common a b : Int) := by
  unfold s_l7Common
  have := fx_sum (B := s_l7Common_L2 n) 3 (fun i x => (x, (i : Int), a, b)) (fun i => eqs (V3.get a i) b) some 1000 (fun self i x hi h0 hM => ?_) (fun self x _ _ => by simp [s_l7Common_L2]) n 0 0 (by omega) (big_gt hn (by omega)) (by omega) (by have := common_le a b; unfold common at this; omega)
  · simpa [common] using this
  · have e1 : decide ((i : Int) < 3) = true := decide_eq_true (by omega)
    simp only [s_l7Common_L2, e1, br_true]
    refine fx_sum (B := s_l7Common_L1 n self) 3 (fun j x => (x, (i : Int), (j : Int), a, b)) (eqn (V3.get a i) b) (fun x => self (x, ((i + 1 : Nat) : Int), a, b)) 1000 (fun self2 j x hj h0 hM => ?_) (fun self2 x _ _ => ?_) n 0 x (by omega) (big_gt hn (by omega)) h0 (by unfold eqs at hM; exact hM)
    · have e2 : decide ((j : Int) < 3) = true := decide_eq_true (by omega)
      simp only [s_l7Common_L1, e2, br_true, inb_ok hi, inb_ok hj, ckb_true, toNat_cast, lt_eq]
      rw [w64_succ (by omega)]
      unfold eqn at hM ⊢
      by_cases hc : V3.get a i = V3.get b j
      · simp only [hc, decide_true, br_true, if_true] at hM ⊢
        rw [w64_id (by omega)]; rfl
      · simp [hc]
    · have e2 : decide (((3 : Nat) : Int) < 3) = false := by decide
      simp only [s_l7Common_L1, e2, br_false, lt_eq]
      rw [w64_succ (by omega)]
theorem slices_Index_int_eq {n : Nat} (hn : BIG ≤ n) {l : List Int} (hl : l.length ≤ 9223372036854775807) (v : Int) : slices_Index_Sint_int_ n l v = some (placeI (l.findIdx? fun x => decide (v = x))) := by
  unfold slices_Index_Sint_int_
  have := fx_find (B := slices_Index_Sint_int__L1 n) l (fun i => (l, v, (l.length : Int), (i : Int))) (fun x => decide (v = x)) (fun i => some (i : Int)) (some (-1)) (fun self i hi => ?_) (fun self => ?_) n (big_gt hn (by omega))
  · have e : ((0 : Nat) : Int) = 0 := rfl
    simp only [e] at this
    rw [this]; unfold placeI; cases l.findIdx? _ <;> rfl
  · have e1 : decide ((i : Int) < (l.length : Int)) = true := decide_eq_true (by omega)
    simp only [slices_Index_Sint_int__L1, e1, br_true, inb_ok hi, ckb_true, toNat_cast, gl_eq hi, lt_eq]
    rw [w64_succ (by omega)]
    by_cases hc : v = l[i] <;> simp [hc]
  · have e1 : decide ((l.length : Int) < (l.length : Int)) = false := decide_eq_false (by omega)
    simp only [slices_Index_Sint_int__L1, e1, br_false]
theorem placeI_nonneg (o : Option Nat) : decide (0 ≤ placeI o) = o.isSome := by
  cases o with
  | none => rfl
  | some i => simp [placeI]
theorem any_eq_contains {l : List Int} {v : Int} : (l.any fun x => decide (v = x)) = l.contains v := by
  rw [Bool.eq_iff_iff]; simp
theorem slices_Contains_int_eq {n : Nat} (hn : BIG ≤ n) {l : List Int} (hl : l.length ≤ 9223372036854775807) (v : Int) : slices_Contains_Sint_int_ n l v = some (l.contains v) := by
  unfold slices_Contains_Sint_int_
  rw [slices_Index_int_eq hn hl]
  simp only [ob_some, placeI_nonneg, List.findIdx?_isSome, any_eq_contains]
def hasn (x : Int) (b : Ln) : Nat := if (V3.els b).contains x = true then 1 else 0
theorem hasn_le (x : Int) (b : Ln) : hasn x b ≤ 1 := by unfold hasn; split <;> omega
theorem i_common_eq {n : Nat} (hn : BIG ≤ n) (a b : Ln) : i_common n a b = some ((hasn a.x0 b + hasn a.x1 b + hasn a.x2 b : Nat) : Int) := by
  unfold i_common
  have h0 := hasn_le a.x0 b; have h1 := hasn_le a.x1 b; have h2 := hasn_le a.x2 b
  have := fx_sum (B := i_common_L1 n) 3 (fun i x => (x, a, (i : Int), b)) (fun i => hasn (V3.get a i) b) some 1000 (fun self i x hi h0 hM => ?_) (fun self x _ _ => by simp [i_common_L1]) n 0 0 (by omega) (big_gt hn (by omega)) (by omega) (by simp [List.range'_succ, V3.get]; omega)
  · simp [List.range'_succ, V3.get] at this
    rw [this]; congr 1; omega
  · have e1 : decide ((i : Int) < 3) = true := decide_eq_true (by omega)
    simp only [i_common_L1, e1, br_true, inb_ok hi, ckb_true, toNat_cast, lt_eq, slices_Contains_int_eq hn (l := V3.els b) (by simp [V3.els]), ob_some]
    rw [w64_succ (by omega)]
    unfold hasn at hM ⊢
    cases hc : (V3.els b).contains (V3.get a i) with
    | true =>
      rw [hc] at hM
      simp only [if_true] at hM
      simp only [br_true, if_true]
      rw [w64_id (by omega)]; rfl
    | false => simp
theorem i_common_pos {n : Nat} (hn : BIG ≤ n) (a b : Ln) : ∃ k : Int, i_common n a b = some k ∧ decide (0 < k) = meets a b := by
  refine ⟨_, i_common_eq hn a b, ?_⟩
  have h : ∀ x, hasn x b = 1 ↔ (V3.els b).contains x = true := fun x => by unfold hasn; split <;> rename_i hh <;> simp only [hh, iff_true, iff_false] <;> decide
  have h0 := h a.x0; have h1 := h a.x1; have h2 := h a.x2
  have l0 := hasn_le a.x0 b; have l1 := hasn_le a.x1 b; have l2 := hasn_le a.x2 b
  have : meets a b = true ↔ 0 < hasn a.x0 b + hasn a.x1 b + hasn a.x2 b := by
    unfold meets
    rw [show V3.els a = [a.x0, a.x1, a.x2] from rfl]
    simp only [List.any_cons, List.any_nil, Bool.or_false, Bool.or_eq_true]
    rw [← h0, ← h1, ← h2]; omega
  rw [Bool.eq_iff_iff, decide_eq_true_eq, this]; omega
theorem meets_comm (a b : Ln) : meets a b = meets b a := by
  rw [Bool.eq_iff_iff]
  unfold meets
  simp only [List.any_eq_true, List.contains_iff_mem]
  constructor
  · rintro ⟨x, h1, h2⟩; exact ⟨x, h2, h1⟩
  · rintro ⟨x, h1, h2⟩; exact ⟨x, h2, h1⟩
end Go.Pl
namespace Go.Pl
open Go Go.Tv Go.RowKit
set_option linter.unusedVariables false
abbrev gz (h : List Card) (i : Nat) : Card := gl (⟨0, 0, 0, 0⟩ : Card) h i
theorem place_get {h : List Card} {c : Card} {k : Nat} (e : place h c = (k : Int)) : k < h.length ∧ gz h k = c := by
  unfold place placeI at e
  cases hf : h.findIdx? (fun x => decide (x = c)) with
  | none => rw [hf] at e; simp only at e; omega
  | some i =>
    rw [hf] at e
    simp only at e
    obtain ⟨h1, h2, _⟩ := List.findIdx?_eq_some_iff_getElem.1 hf
    have : i = k := by omega
    subst this
    refine ⟨h1, ?_⟩
    show gl _ h i = c
    rw [gl_eq h1]; exact of_decide_eq_true h2
theorem place_gz {h : List Card} (H : HandL h) {k : Nat} (hk : k < h.length) : place h (gz h k) = (k : Int) := by
  refine place_of H.nd ?_
  rw [List.getElem?_eq_getElem hk]
  show some h[k] = some (gl _ h k)
  rw [gl_eq hk]
structure LineAt (h : List Card) (i j k : Nat) : Prop where
  ij : i < j
  jk : j < k
  kl : k < h.length
  e : third (gz h i) (gz h j) = gz h k
theorem mem_lines {h : List Card} (H : HandL h) {x : V3 Int} : x ∈ linesOf h ↔ ∃ i j k : Nat, x = ⟨(i : Int), (j : Int), (k : Int)⟩ ∧ LineAt h i j k := by
  unfold linesOf ln2
  simp only [List.mem_flatMap, List.mem_range'_1]
  constructor
  · rintro ⟨i, ⟨_, hi⟩, j, ⟨hj1, hj2⟩, hx⟩
    unfold ln1 at hx
    split at hx
    · rename_i hp
      obtain ⟨k, hk⟩ : ∃ k : Nat, place h (third (gl zz h i) (gl zz h j)) = (k : Int) := ⟨(place h (third (gl zz h i) (gl zz h j))).toNat, by omega⟩
      obtain ⟨g1, g2⟩ := place_get hk
      rw [List.mem_singleton] at hx
      exact ⟨i, j, k, by rw [hx, hk], by omega, by omega, g1, g2.symm⟩
    · cases hx
  · rintro ⟨i, j, k, rfl, L⟩
    have h1 := L.ij; have h2 := L.jk; have h3 := L.kl
    refine ⟨i, ⟨by omega, by omega⟩, j, ⟨by omega, by omega⟩, ?_⟩
    have hp : place h (third (gl zz h i) (gl zz h j)) = (k : Int) := by
      have : third (gl zz h i) (gl zz h j) = gz h k := L.e
      rw [this, place_gz H L.kl]
    unfold ln1
    rw [hp, if_pos (by omega)]
    exact List.mem_singleton.2 rfl
theorem lines_nd {h : List Card} (H : HandL h) : (linesOf h).Nodup := by
  unfold linesOf List.Nodup
  rw [List.pairwise_flatMap]
  have m2 : ∀ i x, x ∈ ln2 h i → x.x0 = (i : Int) := fun i x hx => by
    unfold ln2 at hx
    obtain ⟨j, _, hx⟩ := List.mem_flatMap.1 hx
    unfold ln1 at hx
    split at hx
    · rw [List.mem_singleton] at hx; rw [hx]
    · cases hx
  refine ⟨fun i _ => ?_, List.Pairwise.imp (fun {a b} hab x hx y hy e => ?_) (List.nodup_range' (step := 1))⟩
  · unfold ln2
    rw [List.pairwise_flatMap]
    refine ⟨fun j _ => ?_, List.Pairwise.imp (fun {a b} hab x hx y hy e => ?_) (List.nodup_range' (step := 1))⟩
    · unfold ln1; split
      · exact List.pairwise_singleton _ _
      · exact List.Pairwise.nil
    · have m1 : ∀ j x, x ∈ ln1 h i j → x.x1 = (j : Int) := fun j x hx => by
        unfold ln1 at hx
        split at hx
        · rw [List.mem_singleton] at hx; rw [hx]
        · cases hx
      have h1 := m1 a x hx; have h2 := m1 b y hy
      rw [e] at h1; omega
  · have h1 := m2 a x hx; have h2 := m2 b y hy
    rw [e] at h1; omega
def onL (l : V3 Int) (i : Nat) : Bool := decide (l.x0 = (i : Int)) || decide (l.x1 = (i : Int)) || decide (l.x2 = (i : Int))
theorem onL_iff {l : V3 Int} {i : Nat} : onL l i = true ↔ l.x0 = (i : Int) ∨ l.x1 = (i : Int) ∨ l.x2 = (i : Int) := by
  unfold onL; simp only [Bool.or_eq_true, decide_eq_true_eq, or_assoc]
theorem LineAt.all {h : List Card} (H : HandL h) {i j k : Nat} (L : LineAt h i j k) : third (gz h i) (gz h j) = gz h k ∧ third (gz h i) (gz h k) = gz h j ∧ third (gz h j) (gz h k) = gz h i := by
  have h1 := L.ij; have h2 := L.jk; have h3 := L.kl
  have ci : isC (gz h i) = true := gl_C H.c (by omega)
  have cj : isC (gz h j) = true := gl_C H.c (by omega)
  refine ⟨L.e, ?_, ?_⟩
  · rw [← L.e, th_back ci cj]
  · rw [← L.e, th_comm (gz h i), th_back cj ci]
theorem line_rest {h : List Card} (H : HandL h) {i j k : Nat} (L : LineAt h i j k) {p q : Nat} (hpq : p ≠ q) (hp : p = i ∨ p = j ∨ p = k) (hq : q = i ∨ q = j ∨ q = k) :
    ∃ r, (r = i ∨ r = j ∨ r = k) ∧ r < h.length ∧ gz h r = third (gz h p) (gz h q) ∧ ∀ s, (s = i ∨ s = j ∨ s = k) → s = p ∨ s = q ∨ s = r := by
  have h1 := L.ij; have h2 := L.jk; have h3 := L.kl
  obtain ⟨a1, a2, a3⟩ := L.all H
  rcases hp with rfl | rfl | rfl <;> rcases hq with rfl | rfl | rfl
  · exact absurd rfl hpq
  · exact ⟨k, by omega, by omega, a1.symm, by omega⟩
  · exact ⟨j, by omega, by omega, a2.symm, by omega⟩
  · exact ⟨k, by omega, by omega, by rw [th_comm]; exact a1.symm, by omega⟩
  · exact absurd rfl hpq
  · exact ⟨i, by omega, by omega, a3.symm, by omega⟩
  · exact ⟨j, by omega, by omega, by rw [th_comm]; exact a2.symm, by omega⟩
  · exact ⟨i, by omega, by omega, by rw [th_comm]; exact a3.symm, by omega⟩
  · exact absurd rfl hpq
theorem gz_inj {h : List Card} (H : HandL h) {i j : Nat} (hi : i < h.length) (hj : j < h.length) (e : gz h i = gz h j) : i = j :=
  Classical.byContradiction fun hne => H.ne hi hj hne e
theorem line_uniq {h : List Card} (H : HandL h) {x y : V3 Int} (hx : x ∈ linesOf h) (hy : y ∈ linesOf h) {p q : Nat} (hpq : p ≠ q) (xp : onL x p = true) (xq : onL x q = true) (yp : onL y p = true) (yq : onL y q = true) : x = y := by
  obtain ⟨i, j, k, rfl, L⟩ := (mem_lines H).1 hx
  obtain ⟨i', j', k', rfl, L'⟩ := (mem_lines H).1 hy
  rw [onL_iff] at xp xq yp yq
  simp only [] at xp xq yp yq
  obtain ⟨r, r1, r2, r3, r4⟩ := line_rest H L hpq (by omega) (by omega)
  obtain ⟨r', r1', r2', r3', r4'⟩ := line_rest H L' hpq (by omega) (by omega)
  have : r = r' := gz_inj H r2 r2' (r3.trans r3'.symm)
  subst this
  have s1 := r4 i (by omega); have s2 := r4 j (by omega); have s3 := r4 k (by omega)
  have s1' := r4' i' (by omega); have s2' := r4' j' (by omega); have s3' := r4' k' (by omega)
  have e1 := L.ij; have e2 := L.jk; have e1' := L'.ij; have e2' := L'.jk
  simp only [V3.mk.injEq]
  omega
theorem mem_gz {d : List Card} {c : Card} : c ∈ d ↔ ∃ q, q < d.length ∧ gz d q = c := by
  constructor
  · intro h
    obtain ⟨q, hq, e⟩ := List.getElem_of_mem h
    exact ⟨q, hq, by show gl _ d q = c; rw [gl_eq hq, e]⟩
  · rintro ⟨q, hq, e⟩
    have e : gl _ d q = c := e
    rw [gl_eq hq] at e
    exact e ▸ List.getElem_mem hq
theorem line_ex {h : List Card} (H : HandL h) {p q : Nat} (hpq : q < p) (hp : p < h.length) (hm : h.contains (third (gz h p) (gz h q)) = true) : ∃ x ∈ linesOf h, onL x p = true ∧ onL x q = true := by
  have cp : isC (gz h p) = true := gl_C H.c hp
  have cq : isC (gz h q) = true := gl_C H.c (by omega)
  obtain ⟨r, hr, e⟩ := mem_gz.1 (List.contains_iff_mem.1 hm)
  have hne : gz h p ≠ gz h q := H.ne hp (by omega) (by omega)
  have rp : r ≠ p := fun h' => th_ne cp cq hne (by rw [← e, h'])
  have rq : r ≠ q := fun h' => th_ne2 cp cq hne (by rw [← e, h'])
  have e1 : third (gz h p) (gz h q) = gz h r := e.symm
  have e2 : third (gz h p) (gz h r) = gz h q := by rw [← e1, th_back cp cq]
  have e3 : third (gz h q) (gz h r) = gz h p := by rw [← e1, th_comm (gz h p), th_back cq cp]
  have mk : ∀ i j k : Nat, i < j → j < k → k < h.length → third (gz h i) (gz h j) = gz h k → (⟨(i : Int), (j : Int), (k : Int)⟩ : V3 Int) ∈ linesOf h := fun i j k a b c d => (mem_lines H).2 ⟨i, j, k, rfl, a, b, c, d⟩
  rcases Nat.lt_or_gt_of_ne rp with h1 | h1
  · rcases Nat.lt_or_gt_of_ne rq with h2 | h2
    · exact ⟨_, mk r q p h2 hpq hp (by rw [th_comm]; exact e3), onL_iff.2 (.inr (.inr rfl)), onL_iff.2 (.inr (.inl rfl))⟩
    · exact ⟨_, mk q r p h2 h1 hp e3, onL_iff.2 (.inr (.inr rfl)), onL_iff.2 (.inl rfl)⟩
  · exact ⟨_, mk q p r hpq h1 hr (by rw [th_comm]; exact e1), onL_iff.2 (.inr (.inl rfl)), onL_iff.2 (.inl rfl)⟩
theorem S_ind {n a : Nat} (h : a < n) (q : Nat → Bool) : (S n fun i => b2 (decide (a = i) && q i)) = b2 (q a) := by
  have z : ∀ m, m ≤ a → (S m fun i => b2 (decide (a = i) && q i)) = 0 := fun m hm => by
    rw [S_congr (g := fun _ => 0) fun i hi => by simp [b2, show ¬ a = i by omega], S_zero]
  induction n with
  | zero => omega
  | succ n ih =>
    rw [S]
    by_cases hn : a = n
    · subst hn; rw [z a (Nat.le_refl _)]; simp
    · rw [ih (by omega)]; simp [b2, hn]
theorem b2_or {a b c : Bool} (h1 : ¬ (a = true ∧ b = true)) (h2 : ¬ (a = true ∧ c = true)) (h3 : ¬ (b = true ∧ c = true)) : b2 (a || b || c) = b2 a + b2 b + b2 c := by
  cases a <;> cases b <;> cases c <;> simp_all [b2]
theorem S_on {n i j k : Nat} (hij : i < j) (hjk : j < k) (hk : k < n) (q : Nat → Bool) : (S n fun p => b2 (onL ⟨(i : Int), (j : Int), (k : Int)⟩ p && q p)) = b2 (q i) + b2 (q j) + b2 (q k) := by
  have e : ∀ p, b2 (onL ⟨(i : Int), (j : Int), (k : Int)⟩ p && q p) = b2 (decide (i = p) && q p) + b2 (decide (j = p) && q p) + b2 (decide (k = p) && q p) := fun p => by
    rw [← b2_or]
    · unfold onL
      simp only []
      have d : ∀ a : Nat, decide ((a : Int) = (p : Int)) = decide (a = p) := fun a => by congr 1; apply propext; omega
      rw [d, d, d]
      cases q p <;> simp
    all_goals
      simp only [Bool.and_eq_true, decide_eq_true_eq]
      omega
  rw [S_congr fun p _ => e p, S_add, S_add, S_ind (by omega), S_ind (by omega), S_ind hk]
theorem S_on3 {n : Nat} {h : List Card} (H : HandL h) (hn : h.length = n) {x : V3 Int} (hx : x ∈ linesOf h) : (S n fun p => b2 (onL x p)) = 3 := by
  obtain ⟨i, j, k, rfl, L⟩ := (mem_lines H).1 hx
  have := S_on L.ij L.jk (hn ▸ L.kl) fun _ => true
  simp only [Bool.and_true] at this
  rw [this]; rfl
theorem gl_mem {α : Type} {z : α} {l : List α} {i : Nat} (h : i < l.length) : gl z l i ∈ l := by rw [gl_eq h]; exact List.getElem_mem h
theorem pair_third {h : List Card} (H : HandL h) {i k : Nat} (hk : k < i) (hi : i < h.length) : b2 (h.contains (third (gz h i) (gz h k))) = (linesOf h).countP fun x => onL x i && onL x k := by
  rw [countP_one (lines_nd H) fun a ha b hb pa pb => by
    rw [Bool.and_eq_true] at pa pb
    exact line_uniq H ha hb (p := i) (q := k) (by omega) pa.1 pa.2 pb.1 pb.2]
  congr 1
  rw [Bool.eq_iff_iff, List.any_eq_true]
  constructor
  · intro hm
    obtain ⟨x, hx, h1, h2⟩ := line_ex H hk hi hm
    exact ⟨x, hx, by rw [h1, h2]; rfl⟩
  · rintro ⟨x, hx, hp⟩
    rw [Bool.and_eq_true] at hp
    obtain ⟨a, b, c, rfl, L⟩ := (mem_lines H).1 hx
    obtain ⟨h1, h2⟩ := hp
    rw [onL_iff] at h1 h2
    simp only [] at h1 h2
    obtain ⟨r, r1, r2, r3, r4⟩ := line_rest H L (p := i) (q := k) (by omega) (by omega) (by omega)
    rw [← r3]
    exact List.contains_iff_mem.2 (gl_mem r2)
theorem shut_pairs {h : List Card} (H : HandL h) : (T h.length fun i k => b2 (h.contains (third (gz h i) (gz h k)))) = 3 * (linesOf h).length := by
  have e : ∀ i k, k < i → i < h.length → b2 (h.contains (third (gz h i) (gz h k))) = S (linesOf h).length fun m => b2 (onL (gl ⟨0, 0, 0⟩ (linesOf h) m) i && onL (gl ⟨0, 0, 0⟩ (linesOf h) m) k) := fun i k hk hi => by
    rw [pair_third H hk hi, S_countP (fun x => onL x i && onL x k)]
  rw [T_congr e, T_swap (fun m i k => b2 (onL (gl ⟨0, 0, 0⟩ (linesOf h) m) i && onL (gl ⟨0, 0, 0⟩ (linesOf h) m) k)), S_congr (g := fun _ => 3) fun m hm => by
    rw [T_and (onL (gl ⟨0, 0, 0⟩ (linesOf h) m)), S_on3 H rfl (gl_mem hm)]; rfl, S_const, Nat.mul_comm]
theorem open_pairs {h : List Card} (H : HandL h) : (T h.length fun i k => b2 (!h.contains (third (gz h i) (gz h k)))) + 3 * (linesOf h).length = c2' h.length := by
  rw [← shut_pairs H, ← T_add]
  rw [T_congr (g := fun _ _ => 1) fun i k _ _ => by cases h.contains (third (gz h i) (gz h k)) <;> rfl, T_const, Nat.mul_one]
end Go.Pl
namespace Go.Pl
open Go Go.Tv Go.RowKit
set_option linter.unusedVariables false
theorem lines_len27 {h : List Card} (hh : hand h = true) : (linesOf h).length ≤ 729 := by
  have := hand_len hh
  have h1 := linesOf_len (h := h)
  have : h.length * h.length ≤ 27 * 27 := Nat.mul_le_mul this this
  omega
end Go.Pl
namespace Go.Pl
open Go Go.Tv Go.RowKit
set_option linter.unusedVariables false
theorem c2'_le {n m : Nat} (h : n ≤ m) : c2' n ≤ c2' m := by
  induction m with
  | zero => have : n = 0 := by omega
            subst this; exact Nat.le_refl _
  | succ m ih =>
    by_cases hn : n = m + 1
    · subst hn; exact Nat.le_refl _
    · have := ih (by omega); rw [c2']; omega
end Go.Pl

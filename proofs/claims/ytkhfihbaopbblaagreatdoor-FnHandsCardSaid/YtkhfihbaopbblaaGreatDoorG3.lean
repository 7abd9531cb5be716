/- Plain laws: LTh, LSum, L7, LLn. -/
import Derived.Test.YtkhfihbaopbblaaGreatDoorG2
import Derived.Test.YtkhfihbaopbblaaGreatDoorG1
import Derived.Test.YtkhfihbaopbblaaGreatDoorG0
set_option linter.unusedVariables false
set_option linter.unusedSimpArgs false
namespace Go.Pl
open Go Go.Tv Go.RowKit
set_option linter.unusedVariables false
theorem t3_in012 {x : Int} (h : 0 ≤ x ∧ x ≤ 2) : x = 0 ∨ x = 1 ∨ x = 2 := by omega
theorem t3_self {x : Int} (h : 0 ≤ x ∧ x ≤ 2) : t3 x x = x := by rcases t3_in012 h with rfl | rfl | rfl <;> decide
theorem t3_back' {x y : Int} (hx : 0 ≤ x ∧ x ≤ 2) (hy : 0 ≤ y ∧ y ≤ 2) : t3 x (t3 x y) = y := by
  rcases t3_in012 hx with rfl | rfl | rfl <;> rcases t3_in012 hy with rfl | rfl | rfl <;> decide
theorem th_self {a : Card} (h : isC a = true) : third a a = a := by
  rw [isC_iff] at h
  unfold third
  rw [t3_self h.1, t3_self h.2.1, t3_self h.2.2.1, t3_self h.2.2.2]
theorem th_comm (a b : Card) : third a b = third b a := by
  have e : ∀ x y : Int, t3 x y = t3 y x := fun x y => by unfold t3; congr 1; omega
  unfold third; rw [e a.x0, e a.x1, e a.x2, e a.x3]
theorem th_back {a b : Card} (ha : isC a = true) (hb : isC b = true) : third a (third a b) = b := by
  rw [isC_iff] at ha hb
  unfold third
  simp only []
  rw [t3_back' ha.1 hb.1, t3_back' ha.2.1 hb.2.1, t3_back' ha.2.2.1 hb.2.2.1, t3_back' ha.2.2.2 hb.2.2.2]
theorem th_ne {a b : Card} (ha : isC a = true) (hb : isC b = true) (h : a ≠ b) : third a b ≠ a := fun e => by
  have := th_back ha hb
  rw [e, th_self ha] at this
  exact h this
theorem th_ne2 {a b : Card} (ha : isC a = true) (hb : isC b = true) (h : a ≠ b) : third a b ≠ b := by
  rw [th_comm]; exact th_ne hb ha (Ne.symm h)
structure HandL (h : List Card) : Prop where
  c : AllC h
  nd : h.Nodup
  len : h.length ≤ 100
theorem HandL.of {h : List Card} (hh : hand h = true) : HandL h := ⟨hand_all hh, hand_nodup hh, by have := hand_len hh; omega⟩
theorem HandL.ne {h : List Card} (H : HandL h) {i j : Nat} (hi : i < h.length) (hj : j < h.length) (hne : i ≠ j) : gl (⟨0, 0, 0, 0⟩ : Card) h i ≠ gl (⟨0, 0, 0, 0⟩ : Card) h j := by
  rw [gl_eq hi, gl_eq hj]
  exact fun e => hne ((List.getElem_inj H.nd).1 e)
def pr1 (h : List Card) (c : Card) (i j : Nat) : List (V2 Int) := if lineB (gl ⟨0, 0, 0, 0⟩ h i) (gl ⟨0, 0, 0, 0⟩ h j) c = true then [⟨i, j⟩] else []
def pr2 (h : List Card) (c : Card) (i : Nat) : List (V2 Int) := (List.range' (i + 1) (h.length - (i + 1))).flatMap (pr1 h c i)
def prs (h : List Card) (c : Card) : List (V2 Int) := (List.range' 0 (h.length - 0)).flatMap (pr2 h c)
def thr (h : List Card) (c : Card) : Nat := (prs h c).length
theorem pr1_len {h : List Card} {c : Card} {i j : Nat} : (pr1 h c i j).length ≤ 1 := by unfold pr1; split <;> simp
theorem pr2_len {h : List Card} {c : Card} {i : Nat} : (pr2 h c i).length ≤ h.length := by
  have := flen (l := List.range' (i + 1) (h.length - (i + 1))) (f := pr1 h c i) (M := 1) fun _ _ => pr1_len
  rw [List.length_range', Nat.mul_one] at this
  unfold pr2; omega
theorem thr_len {h : List Card} {c : Card} : thr h c ≤ h.length * h.length := by
  have := flen (l := List.range' 0 (h.length - 0)) (f := pr2 h c) (M := h.length) fun _ _ => pr2_len
  rw [List.length_range', Nat.sub_zero] at this
  unfold thr prs; exact this
theorem s_l2Through_eq {n : Nat} (hn : BIG ≤ n) {h : List Card} (H : HandL h) (c : Card) : s_l2Through n h c = some (thr h c : Int) := by
  have hl := H.len
  have hb := thr_len (h := h) (c := c)
  have hb2 : h.length * h.length ≤ 100 * 100 := Nat.mul_le_mul hl hl
  unfold s_l2Through
  have := fx_app (B := s_l2Through_L2 n) h.length (fun i a => (h, ((a.length : Nat) : Int), (i : Int), c)) (pr2 h c) (fun a => some ((a.length : Nat) : Int)) 1000000 (fun self i a hi hM => by
    simp only [s_l2Through_L2, lt_eq]
    rw [br_pos (decide_eq_true (show (i : Int) < (h.length : Int) by omega)), w64_succ (by omega)]
    refine fx_app (B := s_l2Through_L1 n self) h.length (fun j a => (h, ((a.length : Nat) : Int), (i : Int), (j : Int), c)) (pr1 h c i) (fun a => self (h, ((a.length : Nat) : Int), ((i + 1 : Nat) : Int), c)) 1000000 (fun self2 j a hj hM2 => ?_) (fun self2 a => by
      simp only [s_l2Through_L1, lt_eq]
      rw [br_neg (decide_eq_false (by omega)), w64_succ (by omega)]) n (i + 1) a (by omega) (big_gt hn (by omega)) (by unfold pr2 at hM; exact hM)
    simp only [s_l2Through_L1, lt_eq]
    rw [br_pos (decide_eq_true (show (j : Int) < (h.length : Int) by omega)), ckb_pos (inb_ok hi), ckb_pos (inb_ok hj), toNat_cast, toNat_cast, s_l2Line_eq hn c (gl_C H.c hi) (gl_C H.c hj), ob_some, w64_succ (k := j) (by omega), w64_succ (k := a.length) (by omega)]
    unfold pr1
    cases lineB (gl ⟨0, 0, 0, 0⟩ h i) (gl ⟨0, 0, 0, 0⟩ h j) c with
    | true => simp
    | false => simp) (fun self a => by
    simp only [s_l2Through_L2]
    rw [br_neg (decide_eq_false (by omega))]) n 0 [] (Nat.zero_le _) (big_gt hn (by omega)) (by unfold thr prs at hb; simp only [List.length_nil]; omega)
  rw [List.nil_append] at this
  exact this
theorem lineB_iff {a b c : Card} (ha : isC a = true) (hb : isC b = true) (hne : a ≠ b) : (if (if (!eqd a c) = true then !eqd b c else false) = true then eqd (third a b) c else false) = lineB a b c := by
  unfold lineB
  by_cases h : third a b = c
  · have h1 : a ≠ c := fun e => th_ne ha hb hne (h.trans e.symm)
    have h2 : b ≠ c := fun e => th_ne2 ha hb hne (h.trans e.symm)
    simp [eqd, h, h1, h2, hne]
  · simp [eqd, h]
theorem i_pairsFor_eq {n : Nat} (hn : BIG ≤ n) {h : List Card} (H : HandL h) (c : Card) : i_pairsFor n h c = some (prs h c) := by
  have hl := H.len
  have hb := thr_len (h := h) (c := c)
  have hb2 : h.length * h.length ≤ 100 * 100 := Nat.mul_le_mul hl hl
  unfold i_pairsFor
  have := fx_app (B := i_pairsFor_L2 n) h.length (fun i a => (h, h, (h.length : Int), (i : Int), c, a)) (pr2 h c) some 1000000 (fun self i a hi hM => by
    simp only [i_pairsFor_L2, lt_eq]
    rw [br_pos (decide_eq_true (show (i : Int) < (h.length : Int) by omega)), w64_succ (by omega), ckb_pos (inb_ok hi), toNat_cast]
    refine fx_app (B := i_pairsFor_L1 n self) h.length (fun j a => (h, (i : Int), (j : Int), h, (h.length : Int), (i : Int), c, a, gl ⟨0, 0, 0, 0⟩ h i)) (pr1 h c i) (fun a => self (h, h, (h.length : Int), ((i + 1 : Nat) : Int), c, a)) 1000000 (fun self2 j a hj hM2 => ?_) (fun self2 a => by
      simp only [i_pairsFor_L1, lt_eq]
      rw [br_neg (decide_eq_false (by omega)), w64_succ (by omega)]) n (i + 1) a (by omega) (big_gt hn (by omega)) (by unfold pr2 at hM; exact hM)
    simp only [i_pairsFor_L1, lt_eq]
    rw [br_pos (decide_eq_true (show (j : Int) < (h.length : Int) by omega)), inb_ok hj, toNat_cast, i_third_eq hn (gl_C H.c hi) (gl_C H.c hj), w64_succ (k := j) (by omega)]
    simp only [ckb_true, ob_some, br_some]
    unfold pr1 at hM2 ⊢
    by_cases hij : i = j
    · subst hij
      have e1 : lineB (gl ⟨0, 0, 0, 0⟩ h i) (gl ⟨0, 0, 0, 0⟩ h i) c = false := by unfold lineB; simp
      have e2 : (if (if (!eqd (gl ⟨0, 0, 0, 0⟩ h i) c) = true then !eqd (gl ⟨0, 0, 0, 0⟩ h i) c else false) = true then eqd (third (gl ⟨0, 0, 0, 0⟩ h i) (gl ⟨0, 0, 0, 0⟩ h i)) c else false) = false := by
        rw [th_self (gl_C H.c hi)]
        cases eqd (gl ⟨0, 0, 0, 0⟩ h i) c <;> simp
      rw [e2, e1]; simp
    · rw [lineB_iff (gl_C H.c hi) (gl_C H.c hj) (H.ne hi hj hij)]
      cases hx : lineB (gl ⟨0, 0, 0, 0⟩ h i) (gl ⟨0, 0, 0, 0⟩ h j) c with
      | true =>
        rw [hx] at hM2
        simp only [if_true, List.length_singleton] at hM2
        rw [br_true, ckb_pos (apok_ok (by omega) (by omega))]; simp
      | false => simp) (fun self a => by
    simp only [i_pairsFor_L2]
    rw [br_neg (decide_eq_false (by omega))]) n 0 [] (Nat.zero_le _) (big_gt hn (by omega)) (by unfold thr prs at hb; simp only [List.length_nil]; omega)
  rw [List.nil_append] at this
  exact this
def outOK (h : List Card) (b : Bool) (k : Nat) : Bool := !h.contains (cardAt k) && (decide (0 < thr h (cardAt k)) == b)
end Go.Pl
namespace Go.Pl
open Go Go.Tv
def S : Nat → (Nat → Nat) → Nat
  | 0, _ => 0
  | n + 1, f => S n f + f n
def T (n : Nat) (g : Nat → Nat → Nat) : Nat := S n fun i => S i (g i)
def b2 (b : Bool) : Nat := if b = true then 1 else 0
def c2' : Nat → Nat
  | 0 => 0
  | n + 1 => c2' n + n
theorem S_range' (f : Nat → Nat) : ∀ (n : Nat), ((List.range' 0 (n - 0)).map f).sum = S n f
  | 0 => rfl
  | n + 1 => by
    have ih := S_range' f n
    simp only [Nat.sub_zero] at ih ⊢
    rw [List.range'_concat, List.map_append, List.sum_append, ih]
    simp [S]
theorem S_congr {f g : Nat → Nat} : ∀ {n : Nat}, (∀ i, i < n → f i = g i) → S n f = S n g
  | 0, _ => rfl
  | n + 1, h => by rw [S, S, S_congr fun i hi => h i (by omega), h n (by omega)]
theorem S_add (f g : Nat → Nat) : ∀ n, S n (fun i => f i + g i) = S n f + S n g
  | 0 => rfl
  | n + 1 => by rw [S, S, S, S_add f g n]; omega
theorem S_zero : ∀ n, S n (fun _ => 0) = 0
  | 0 => rfl
  | n + 1 => by rw [S, S_zero n]
theorem S_const (k : Nat) : ∀ n, S n (fun _ => k) = n * k
  | 0 => by simp [S]
  | n + 1 => by rw [S, S_const k n, Nat.succ_mul]
theorem S_swap (f : Nat → Nat → Nat) (m : Nat) : ∀ n, S n (fun i => S m (f i)) = S m fun j => S n fun i => f i j
  | 0 => (S_zero m).symm
  | n + 1 => by rw [S, S_swap f m n, ← S_add]; rfl
theorem T_succ (n : Nat) (g : Nat → Nat → Nat) : T (n + 1) g = T n g + S n (g n) := rfl
theorem T_congr {n : Nat} {f g : Nat → Nat → Nat} (h : ∀ i k, k < i → i < n → f i k = g i k) : T n f = T n g := S_congr fun i hi => S_congr fun k hk => h i k hk hi
theorem T_add (n : Nat) (f g : Nat → Nat → Nat) : T n (fun i k => f i k + g i k) = T n f + T n g := by
  unfold T
  rw [← S_add]; exact S_congr fun i _ => S_add (f i) (g i) i
theorem T_const (k : Nat) : ∀ n, T n (fun _ _ => k) = c2' n * k
  | 0 => by simp [T, S, c2']
  | n + 1 => by rw [T_succ, T_const k n, S_const, c2', Nat.add_mul]
theorem T_swap (f : Nat → Nat → Nat → Nat) (m : Nat) : ∀ n, T n (fun i k => S m fun j => f j i k) = S m fun j => T n (f j)
  | 0 => (S_zero m).symm
  | n + 1 => by
    rw [T_succ, T_swap f m n, S_swap (fun k j => f j n k), ← S_add]; rfl
theorem T_and (p : Nat → Bool) : ∀ n, T n (fun i k => b2 (p i && p k)) = c2' (S n fun i => b2 (p i))
  | 0 => rfl
  | n + 1 => by
    rw [T_succ, T_and p n, S]
    cases hp : p n with
    | false =>
      have : (S n fun k => b2 (false && p k)) = 0 := by simp only [Bool.false_and]; exact S_zero n
      rw [this]; rfl
    | true =>
      simp only [Bool.true_and]
      show _ = c2' (_ + 1)
      rw [c2']
theorem c2'_two (n : Nat) : 2 * c2' n = n * (n - 1) := by
  induction n with
  | zero => rfl
  | succ n ih =>
    rw [c2', Nat.mul_add, ih]
    cases n with
    | zero => rfl
    | succ n => simp only [Nat.add_sub_cancel, Nat.succ_mul, Nat.mul_succ, Nat.mul_add, Nat.add_mul]; omega
theorem S_countP {α : Type} (p : α → Bool) (z : α) (l : List α) : (S l.length fun m => b2 (p (gl z l m))) = l.countP p := by
  have h : ∀ k, k ≤ l.length → (S k fun m => b2 (p (gl z l m))) = (l.take k).countP p := by
    intro k
    induction k with
    | zero => intro _; simp [S]
    | succ k ih =>
      intro hk
      rw [S, ih (by omega), take_snoc (show k < l.length by omega), List.countP_append, gl_eq (show k < l.length by omega)]
      congr 1
      simp [b2, List.countP_cons]
  rw [h l.length (Nat.le_refl _), List.take_length]
theorem countP_one {α : Type} {p : α → Bool} : ∀ {l : List α}, l.Nodup → (∀ a ∈ l, ∀ b ∈ l, p a = true → p b = true → a = b) → l.countP p = b2 (l.any p)
  | [], _, _ => rfl
  | x :: l, hn, hu => by
    obtain ⟨h1, h2⟩ := List.nodup_cons.1 hn
    have ih := countP_one h2 fun a ha b hb => hu a (List.mem_cons_of_mem _ ha) b (List.mem_cons_of_mem _ hb)
    rw [List.countP_cons, ih, List.any_cons]
    cases hp : p x with
    | false => simp
    | true =>
      have : l.any p = false := by
        rw [List.any_eq_false]
        intro y hy hpy
        have := hu x List.mem_cons_self y (List.mem_cons_of_mem _ hy) hp hpy
        exact h1 (this ▸ hy)
      rw [this]; rfl
end Go.Pl
namespace Go.Pl
open Go Go.Tv Go.RowKit
abbrev Ln := V3 Int
end Go.Pl
namespace Go.Pl
open Go Go.Tv Go.RowKit
set_option linter.unusedVariables false
abbrev gz (h : List Card) (i : Nat) : Card := gl (⟨0, 0, 0, 0⟩ : Card) h i
theorem place_get {h : List Card} {c : Card} {k : Nat} (e : place h c = (k : Int)) : k < h.length ∧ gz h k = c := by
  unfold place placeI at e
  cases hf : h.findIdx? (fun x => decide (x = c)) with
  | none => rw [hf] at e; simp only at e; omega
  | some i =>
    rw [hf] at e
    simp only at e
    obtain ⟨h1, h2, _⟩ := List.findIdx?_eq_some_iff_getElem.1 hf
    have : i = k := by omega
    subst this
    refine ⟨h1, ?_⟩
    show gl _ h i = c
    rw [gl_eq h1]; exact of_decide_eq_true h2
theorem place_gz {h : List Card} (H : HandL h) {k : Nat} (hk : k < h.length) : place h (gz h k) = (k : Int) := by
  refine place_of H.nd ?_
  rw [List.getElem?_eq_getElem hk]
  show some h[k] = some (gl _ h k)
  rw [gl_eq hk]
structure LineAt (h : List Card) (i j k : Nat) : Prop where
  ij : i < j
  jk : j < k
  kl : k < h.length
  e : third (gz h i) (gz h j) = gz h k
theorem mem_lines {h : List Card} (H : HandL h) {x : V3 Int} : x ∈ linesOf h ↔ ∃ i j k : Nat, x = ⟨(i : Int), (j : Int), (k : Int)⟩ ∧ LineAt h i j k := by
  unfold linesOf ln2
  simp only [List.mem_flatMap, List.mem_range'_1]
  constructor
  · rintro ⟨i, ⟨_, hi⟩, j, ⟨hj1, hj2⟩, hx⟩
    unfold ln1 at hx
    split at hx
    · rename_i hp
      obtain ⟨k, hk⟩ : ∃ k : Nat, place h (third (gl zz h i) (gl zz h j)) = (k : Int) := ⟨(place h (third (gl zz h i) (gl zz h j))).toNat, by omega⟩
      obtain ⟨g1, g2⟩ := place_get hk
      rw [List.mem_singleton] at hx
      exact ⟨i, j, k, by rw [hx, hk], by omega, by omega, g1, g2.symm⟩
    · cases hx
  · rintro ⟨i, j, k, rfl, L⟩
    have h1 := L.ij; have h2 := L.jk; have h3 := L.kl
    refine ⟨i, ⟨by omega, by omega⟩, j, ⟨by omega, by omega⟩, ?_⟩
    have hp : place h (third (gl zz h i) (gl zz h j)) = (k : Int) := by
      have : third (gl zz h i) (gl zz h j) = gz h k := L.e
      rw [this, place_gz H L.kl]
    unfold ln1
    rw [hp, if_pos (by omega)]
    exact List.mem_singleton.2 rfl
theorem lines_nd {h : List Card} (H : HandL h) : (linesOf h).Nodup := by
  unfold linesOf List.Nodup
  rw [List.pairwise_flatMap]
  have m2 : ∀ i x, x ∈ ln2 h i → x.x0 = (i : Int) := fun i x hx => by
    unfold ln2 at hx
    obtain ⟨j, _, hx⟩ := List.mem_flatMap.1 hx
    unfold ln1 at hx
    split at hx
    · rw [List.mem_singleton] at hx; rw [hx]
    · cases hx
  refine ⟨fun i _ => ?_, List.Pairwise.imp (fun {a b} hab x hx y hy e => ?_) (List.nodup_range' (step := 1))⟩
  · unfold ln2
    rw [List.pairwise_flatMap]
    refine ⟨fun j _ => ?_, List.Pairwise.imp (fun {a b} hab x hx y hy e => ?_) (List.nodup_range' (step := 1))⟩
    · unfold ln1; split
      · exact List.pairwise_singleton _ _
      · exact List.Pairwise.nil
    · have m1 : ∀ j x, x ∈ ln1 h i j → x.x1 = (j : Int) := fun j x hx => by
        unfold ln1 at hx
        split at hx
        · rw [List.mem_singleton] at hx; rw [hx]
        · cases hx
      have h1 := m1 a x hx; have h2 := m1 b y hy
      rw [e] at h1; omega
  · have h1 := m2 a x hx; have h2 := m2 b y hy
    rw [e] at h1; omega
def onL (l : V3 Int) (i : Nat) : Bool := decide (l.x0 = (i : Int)) || decide (l.x1 = (i : Int)) || decide (l.x2 = (i : Int))
theorem onL_iff {l : V3 Int} {i : Nat} : onL l i = true ↔ l.x0 = (i : Int) ∨ l.x1 = (i : Int) ∨ l.x2 = (i : Int) := by
  unfold onL; simp only [Bool.or_eq_true, decide_eq_true_eq, or_assoc]
theorem LineAt.all {h : List Card} (H : HandL h) {i j k : Nat} (L : LineAt h i j k) : third (gz h i) (gz h j) = gz h k ∧ third (gz h i) (gz h k) = gz h j ∧ third (gz h j) (gz h k) = gz h i := by
  have h1 := L.ij; have h2 := L.jk; have h3 := L.kl
  have ci : isC (gz h i) = true := gl_C H.c (by omega)
  have cj : isC (gz h j) = true := gl_C H.c (by omega)
  refine ⟨L.e, ?_, ?_⟩
  · rw [← L.e, th_back ci cj]
  · rw [← L.e, th_comm (gz h i), th_back cj ci]
theorem line_rest {h : List Card} (H : HandL h) {i j k : Nat} (L : LineAt h i j k) {p q : Nat} (hpq : p ≠ q) (hp : p = i ∨ p = j ∨ p = k) (hq : q = i ∨ q = j ∨ q = k) :
    ∃ r, (r = i ∨ r = j ∨ r = k) ∧ r < h.length ∧ gz h r = third (gz h p) (gz h q) ∧ ∀ s, (s = i ∨ s = j ∨ s = k) → s = p ∨ s = q ∨ s = r := by
  have h1 := L.ij; have h2 := L.jk; have h3 := L.kl
  obtain ⟨a1, a2, a3⟩ := L.all H
  rcases hp with rfl | rfl | rfl <;> rcases hq with rfl | rfl | rfl
  · exact absurd rfl hpq
  · exact ⟨k, by omega, by omega, a1.symm, by omega⟩
  · exact ⟨j, by omega, by omega, a2.symm, by omega⟩
  · exact ⟨k, by omega, by omega, by rw [th_comm]; exact a1.symm, by omega⟩
  · exact absurd rfl hpq
  · exact ⟨i, by omega, by omega, a3.symm, by omega⟩
  · exact ⟨j, by omega, by omega, by rw [th_comm]; exact a2.symm, by omega⟩
  · exact ⟨i, by omega, by omega, by rw [th_comm]; exact a3.symm, by omega⟩
  · exact absurd rfl hpq
theorem gz_inj {h : List Card} (H : HandL h) {i j : Nat} (hi : i < h.length) (hj : j < h.length) (e : gz h i = gz h j) : i = j :=
  Classical.byContradiction fun hne => H.ne hi hj hne e
theorem line_uniq {h : List Card} (H : HandL h) {x y : V3 Int} (hx : x ∈ linesOf h) (hy : y ∈ linesOf h) {p q : Nat} (hpq : p ≠ q) (xp : onL x p = true) (xq : onL x q = true) (yp : onL y p = true) (yq : onL y q = true) : x = y := by
  obtain ⟨i, j, k, rfl, L⟩ := (mem_lines H).1 hx
  obtain ⟨i', j', k', rfl, L'⟩ := (mem_lines H).1 hy
  rw [onL_iff] at xp xq yp yq
  simp only [] at xp xq yp yq
  obtain ⟨r, r1, r2, r3, r4⟩ := line_rest H L hpq (by omega) (by omega)
  obtain ⟨r', r1', r2', r3', r4'⟩ := line_rest H L' hpq (by omega) (by omega)
  have : r = r' := gz_inj H r2 r2' (r3.trans r3'.symm)
  subst this
  have s1 := r4 i (by omega); have s2 := r4 j (by omega); have s3 := r4 k (by omega)
  have s1' := r4' i' (by omega); have s2' := r4' j' (by omega); have s3' := r4' k' (by omega)
  have e1 := L.ij; have e2 := L.jk; have e1' := L'.ij; have e2' := L'.jk
  simp only [V3.mk.injEq]
  omega
theorem mem_gz {d : List Card} {c : Card} : c ∈ d ↔ ∃ q, q < d.length ∧ gz d q = c := by
  constructor
  · intro h
    obtain ⟨q, hq, e⟩ := List.getElem_of_mem h
    exact ⟨q, hq, by show gl _ d q = c; rw [gl_eq hq, e]⟩
  · rintro ⟨q, hq, e⟩
    have e : gl _ d q = c := e
    rw [gl_eq hq] at e
    exact e ▸ List.getElem_mem hq
theorem line_ex {h : List Card} (H : HandL h) {p q : Nat} (hpq : q < p) (hp : p < h.length) (hm : h.contains (third (gz h p) (gz h q)) = true) : ∃ x ∈ linesOf h, onL x p = true ∧ onL x q = true := by
  have cp : isC (gz h p) = true := gl_C H.c hp
  have cq : isC (gz h q) = true := gl_C H.c (by omega)
  obtain ⟨r, hr, e⟩ := mem_gz.1 (List.contains_iff_mem.1 hm)
  have hne : gz h p ≠ gz h q := H.ne hp (by omega) (by omega)
  have rp : r ≠ p := fun h' => th_ne cp cq hne (by rw [← e, h'])
  have rq : r ≠ q := fun h' => th_ne2 cp cq hne (by rw [← e, h'])
  have e1 : third (gz h p) (gz h q) = gz h r := e.symm
  have e2 : third (gz h p) (gz h r) = gz h q := by rw [← e1, th_back cp cq]
  have e3 : third (gz h q) (gz h r) = gz h p := by rw [← e1, th_comm (gz h p), th_back cq cp]
  have mk : ∀ i j k : Nat, i < j → j < k → k < h.length → third (gz h i) (gz h j) = gz h k → (⟨(i : Int), (j : Int), (k : Int)⟩ : V3 Int) ∈ linesOf h := fun i j k a b c d => (mem_lines H).2 ⟨i, j, k, rfl, a, b, c, d⟩
  rcases Nat.lt_or_gt_of_ne rp with h1 | h1
  · rcases Nat.lt_or_gt_of_ne rq with h2 | h2
    · exact ⟨_, mk r q p h2 hpq hp (by rw [th_comm]; exact e3), onL_iff.2 (.inr (.inr rfl)), onL_iff.2 (.inr (.inl rfl))⟩
    · exact ⟨_, mk q r p h2 h1 hp e3, onL_iff.2 (.inr (.inr rfl)), onL_iff.2 (.inl rfl)⟩
  · exact ⟨_, mk q p r hpq h1 hr (by rw [th_comm]; exact e1), onL_iff.2 (.inr (.inl rfl)), onL_iff.2 (.inl rfl)⟩
theorem S_ind {n a : Nat} (h : a < n) (q : Nat → Bool) : (S n fun i => b2 (decide (a = i) && q i)) = b2 (q a) := by
  have z : ∀ m, m ≤ a → (S m fun i => b2 (decide (a = i) && q i)) = 0 := fun m hm => by
    rw [S_congr (g := fun _ => 0) fun i hi => by simp [b2, show ¬ a = i by omega], S_zero]
  induction n with
  | zero => omega
  | succ n ih =>
    rw [S]
    by_cases hn : a = n
    · subst hn; rw [z a (Nat.le_refl _)]; simp
    · rw [ih (by omega)]; simp [b2, hn]
theorem b2_or {a b c : Bool} (h1 : ¬ (a = true ∧ b = true)) (h2 : ¬ (a = true ∧ c = true)) (h3 : ¬ (b = true ∧ c = true)) : b2 (a || b || c) = b2 a + b2 b + b2 c := by
  cases a <;> cases b <;> cases c <;> simp_all [b2]
theorem S_on {n i j k : Nat} (hij : i < j) (hjk : j < k) (hk : k < n) (q : Nat → Bool) : (S n fun p => b2 (onL ⟨(i : Int), (j : Int), (k : Int)⟩ p && q p)) = b2 (q i) + b2 (q j) + b2 (q k) := by
  have e : ∀ p, b2 (onL ⟨(i : Int), (j : Int), (k : Int)⟩ p && q p) = b2 (decide (i = p) && q p) + b2 (decide (j = p) && q p) + b2 (decide (k = p) && q p) := fun p => by
    rw [← b2_or]
    · unfold onL
      simp only []
      have d : ∀ a : Nat, decide ((a : Int) = (p : Int)) = decide (a = p) := fun a => by congr 1; apply propext; omega
      rw [d, d, d]
      cases q p <;> simp
    all_goals
      simp only [Bool.and_eq_true, decide_eq_true_eq]
      omega
  rw [S_congr fun p _ => e p, S_add, S_add, S_ind (by omega), S_ind (by omega), S_ind hk]
theorem S_on3 {n : Nat} {h : List Card} (H : HandL h) (hn : h.length = n) {x : V3 Int} (hx : x ∈ linesOf h) : (S n fun p => b2 (onL x p)) = 3 := by
  obtain ⟨i, j, k, rfl, L⟩ := (mem_lines H).1 hx
  have := S_on L.ij L.jk (hn ▸ L.kl) fun _ => true
  simp only [Bool.and_true] at this
  rw [this]; rfl
theorem gl_mem {α : Type} {z : α} {l : List α} {i : Nat} (h : i < l.length) : gl z l i ∈ l := by rw [gl_eq h]; exact List.getElem_mem h
theorem pair_third {h : List Card} (H : HandL h) {i k : Nat} (hk : k < i) (hi : i < h.length) : b2 (h.contains (third (gz h i) (gz h k))) = (linesOf h).countP fun x => onL x i && onL x k := by
  rw [countP_one (lines_nd H) fun a ha b hb pa pb => by
    rw [Bool.and_eq_true] at pa pb
    exact line_uniq H ha hb (p := i) (q := k) (by omega) pa.1 pa.2 pb.1 pb.2]
  congr 1
  rw [Bool.eq_iff_iff, List.any_eq_true]
  constructor
  · intro hm
    obtain ⟨x, hx, h1, h2⟩ := line_ex H hk hi hm
    exact ⟨x, hx, by rw [h1, h2]; rfl⟩
  · rintro ⟨x, hx, hp⟩
    rw [Bool.and_eq_true] at hp
    obtain ⟨a, b, c, rfl, L⟩ := (mem_lines H).1 hx
    obtain ⟨h1, h2⟩ := hp
    rw [onL_iff] at h1 h2
    simp only [] at h1 h2
    obtain ⟨r, r1, r2, r3, r4⟩ := line_rest H L (p := i) (q := k) (by omega) (by omega) (by omega)
    rw [← r3]
    exact List.contains_iff_mem.2 (gl_mem r2)
theorem shut_pairs {h : List Card} (H : HandL h) : (T h.length fun i k => b2 (h.contains (third (gz h i) (gz h k)))) = 3 * (linesOf h).length := by
  have e : ∀ i k, k < i → i < h.length → b2 (h.contains (third (gz h i) (gz h k))) = S (linesOf h).length fun m => b2 (onL (gl ⟨0, 0, 0⟩ (linesOf h) m) i && onL (gl ⟨0, 0, 0⟩ (linesOf h) m) k) := fun i k hk hi => by
    rw [pair_third H hk hi, S_countP (fun x => onL x i && onL x k)]
  rw [T_congr e, T_swap (fun m i k => b2 (onL (gl ⟨0, 0, 0⟩ (linesOf h) m) i && onL (gl ⟨0, 0, 0⟩ (linesOf h) m) k)), S_congr (g := fun _ => 3) fun m hm => by
    rw [T_and (onL (gl ⟨0, 0, 0⟩ (linesOf h) m)), S_on3 H rfl (gl_mem hm)]; rfl, S_const, Nat.mul_comm]
theorem open_pairs {h : List Card} (H : HandL h) : (T h.length fun i k => b2 (!h.contains (third (gz h i) (gz h k)))) + 3 * (linesOf h).length = c2' h.length := by
  rw [← shut_pairs H, ← T_add]
  rw [T_congr (g := fun _ _ => 1) fun i k _ _ => by cases h.contains (third (gz h i) (gz h k)) <;> rfl, T_const, Nat.mul_one]
end Go.Pl

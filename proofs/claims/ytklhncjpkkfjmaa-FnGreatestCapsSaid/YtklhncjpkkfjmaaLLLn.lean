/- Plain laws: LLn. -/
import Derived.Test.YtklhncjpkkfjmaaLLTh
import Derived.Test.YtklhncjpkkfjmaaLLSum
import Derived.Test.YtklhncjpkkfjmaaLL7
set_option linter.unusedVariables false
set_option linter.unusedSimpArgs false
namespace Go.Pl
open Go Go.Tv Go.RowKit
set_option linter.unusedVariables false

/-! lines of a hand -/
abbrev gz (h : List Card) (i : Nat) : Card := gl (⟨0, 0, 0, 0⟩ : Card) h i
theorem place_get {h : List Card} {c : Card} {k : Nat} (e : place h c = (k : Int)) : k < h.length ∧ gz h k = c := by
  unfold place placeI at e
  cases hf : h.findIdx? (fun x => decide (x = c)) with
  | none => rw [hf] at e; simp only at e; omega
  | some i =>
    rw [hf] at e
    simp only at e
    obtain ⟨h1, h2, _⟩ := List.findIdx?_eq_some_iff_getElem.1 hf
    have : i = k := by omega
    subst this
    refine ⟨h1, ?_⟩
    show gl _ h i = c
    rw [gl_eq h1]; exact of_decide_eq_true h2
theorem place_gz {h : List Card} (H : HandL h) {k : Nat} (hk : k < h.length) : place h (gz h k) = (k : Int) := by
  refine place_of H.nd ?_
  rw [List.getElem?_eq_getElem hk]
  show some h[k] = some (gl _ h k)
  rw [gl_eq hk]
/-- a line of places -/
structure LineAt (h : List Card) (i j k : Nat) : Prop where
  ij : i < j
  jk : j < k
  kl : k < h.length
  e : third (gz h i) (gz h j) = gz h k
theorem mem_lines {h : List Card} (H : HandL h) {x : V3 Int} : x ∈ linesOf h ↔ ∃ i j k : Nat, x = ⟨(i : Int), (j : Int), (k : Int)⟩ ∧ LineAt h i j k := by
  unfold linesOf ln2
  simp only [List.mem_flatMap, List.mem_range'_1]
  constructor
  · rintro ⟨i, ⟨_, hi⟩, j, ⟨hj1, hj2⟩, hx⟩
    unfold ln1 at hx
    split at hx
    · rename_i hp
      obtain ⟨k, hk⟩ : ∃ k : Nat, place h (third (gl zz h i) (gl zz h j)) = (k : Int) := ⟨(place h (third (gl zz h i) (gl zz h j))).toNat, by omega⟩
      obtain ⟨g1, g2⟩ := place_get hk
      rw [List.mem_singleton] at hx
      exact ⟨i, j, k, by rw [hx, hk], by omega, by omega, g1, g2.symm⟩
    · cases hx
  · rintro ⟨i, j, k, rfl, L⟩
    have h1 := L.ij; have h2 := L.jk; have h3 := L.kl
    refine ⟨i, ⟨by omega, by omega⟩, j, ⟨by omega, by omega⟩, ?_⟩
    have hp : place h (third (gl zz h i) (gl zz h j)) = (k : Int) := by
      have : third (gl zz h i) (gl zz h j) = gz h k := L.e
      rw [this, place_gz H L.kl]
    unfold ln1
    rw [hp, if_pos (by omega)]
    exact List.mem_singleton.2 rfl
theorem lines_nd {h : List Card} (H : HandL h) : (linesOf h).Nodup := by
  unfold linesOf List.Nodup
  rw [List.pairwise_flatMap]
  have m2 : ∀ i x, x ∈ ln2 h i → x.x0 = (i : Int) := fun i x hx => by
    unfold ln2 at hx
    obtain ⟨j, _, hx⟩ := List.mem_flatMap.1 hx
    unfold ln1 at hx
    split at hx
    · rw [List.mem_singleton] at hx; rw [hx]
    · cases hx
  refine ⟨fun i _ => ?_, List.Pairwise.imp (fun {a b} hab x hx y hy e => ?_) (List.nodup_range' (step := 1))⟩
  · unfold ln2
    rw [List.pairwise_flatMap]
    refine ⟨fun j _ => ?_, List.Pairwise.imp (fun {a b} hab x hx y hy e => ?_) (List.nodup_range' (step := 1))⟩
    · unfold ln1; split
      · exact List.pairwise_singleton _ _
      · exact List.Pairwise.nil
    · have m1 : ∀ j x, x ∈ ln1 h i j → x.x1 = (j : Int) := fun j x hx => by
        unfold ln1 at hx
        split at hx
        · rw [List.mem_singleton] at hx; rw [hx]
        · cases hx
      have h1 := m1 a x hx; have h2 := m1 b y hy
      rw [e] at h1; omega
  · have h1 := m2 a x hx; have h2 := m2 b y hy
    rw [e] at h1; omega
def onL (l : V3 Int) (i : Nat) : Bool := decide (l.x0 = (i : Int)) || decide (l.x1 = (i : Int)) || decide (l.x2 = (i : Int))
theorem onL_iff {l : V3 Int} {i : Nat} : onL l i = true ↔ l.x0 = (i : Int) ∨ l.x1 = (i : Int) ∨ l.x2 = (i : Int) := by
  unfold onL; simp only [Bool.or_eq_true, decide_eq_true_eq, or_assoc]
/-- each of a line's cards is the third one of the others -/
theorem LineAt.all {h : List Card} (H : HandL h) {i j k : Nat} (L : LineAt h i j k) : third (gz h i) (gz h j) = gz h k ∧ third (gz h i) (gz h k) = gz h j ∧ third (gz h j) (gz h k) = gz h i := by
  have h1 := L.ij; have h2 := L.jk; have h3 := L.kl
  have ci : isC (gz h i) = true := gl_C H.c (by omega)
  have cj : isC (gz h j) = true := gl_C H.c (by omega)
  refine ⟨L.e, ?_, ?_⟩
  · rw [← L.e, th_back ci cj]
  · rw [← L.e, th_comm (gz h i), th_back cj ci]
theorem line_rest {h : List Card} (H : HandL h) {i j k : Nat} (L : LineAt h i j k) {p q : Nat} (hpq : p ≠ q) (hp : p = i ∨ p = j ∨ p = k) (hq : q = i ∨ q = j ∨ q = k) :
    ∃ r, (r = i ∨ r = j ∨ r = k) ∧ r < h.length ∧ gz h r = third (gz h p) (gz h q) ∧ ∀ s, (s = i ∨ s = j ∨ s = k) → s = p ∨ s = q ∨ s = r := by
  have h1 := L.ij; have h2 := L.jk; have h3 := L.kl
  obtain ⟨a1, a2, a3⟩ := L.all H
  rcases hp with rfl | rfl | rfl <;> rcases hq with rfl | rfl | rfl
  · exact absurd rfl hpq
  · exact ⟨k, by omega, by omega, a1.symm, by omega⟩
  · exact ⟨j, by omega, by omega, a2.symm, by omega⟩
  · exact ⟨k, by omega, by omega, by rw [th_comm]; exact a1.symm, by omega⟩
  · exact absurd rfl hpq
  · exact ⟨i, by omega, by omega, a3.symm, by omega⟩
  · exact ⟨j, by omega, by omega, by rw [th_comm]; exact a2.symm, by omega⟩
  · exact ⟨i, by omega, by omega, by rw [th_comm]; exact a3.symm, by omega⟩
  · exact absurd rfl hpq
theorem gz_inj {h : List Card} (H : HandL h) {i j : Nat} (hi : i < h.length) (hj : j < h.length) (e : gz h i = gz h j) : i = j :=
  Classical.byContradiction fun hne => H.ne hi hj hne e
theorem line_uniq {h : List Card} (H : HandL h) {x y : V3 Int} (hx : x ∈ linesOf h) (hy : y ∈ linesOf h) {p q : Nat} (hpq : p ≠ q) (xp : onL x p = true) (xq : onL x q = true) (yp : onL y p = true) (yq : onL y q = true) : x = y := by
  obtain ⟨i, j, k, rfl, L⟩ := (mem_lines H).1 hx
  obtain ⟨i', j', k', rfl, L'⟩ := (mem_lines H).1 hy
  rw [onL_iff] at xp xq yp yq
  simp only [] at xp xq yp yq
  obtain ⟨r, r1, r2, r3, r4⟩ := line_rest H L hpq (by omega) (by omega)
  obtain ⟨r', r1', r2', r3', r4'⟩ := line_rest H L' hpq (by omega) (by omega)
  have : r = r' := gz_inj H r2 r2' (r3.trans r3'.symm)
  subst this
  have s1 := r4 i (by omega); have s2 := r4 j (by omega); have s3 := r4 k (by omega)
  have s1' := r4' i' (by omega); have s2' := r4' j' (by omega); have s3' := r4' k' (by omega)
  have e1 := L.ij; have e2 := L.jk; have e1' := L'.ij; have e2' := L'.jk
  simp only [V3.mk.injEq]
  omega
theorem mem_gz {d : List Card} {c : Card} : c ∈ d ↔ ∃ q, q < d.length ∧ gz d q = c := by
  constructor
  · intro h
    obtain ⟨q, hq, e⟩ := List.getElem_of_mem h
    exact ⟨q, hq, by show gl _ d q = c; rw [gl_eq hq, e]⟩
  · rintro ⟨q, hq, e⟩
    have e : gl _ d q = c := e
    rw [gl_eq hq] at e
    exact e ▸ List.getElem_mem hq
theorem line_ex {h : List Card} (H : HandL h) {p q : Nat} (hpq : q < p) (hp : p < h.length) (hm : h.contains (third (gz h p) (gz h q)) = true) : ∃ x ∈ linesOf h, onL x p = true ∧ onL x q = true := by
  have cp : isC (gz h p) = true := gl_C H.c hp
  have cq : isC (gz h q) = true := gl_C H.c (by omega)
  obtain ⟨r, hr, e⟩ := mem_gz.1 (List.contains_iff_mem.1 hm)
  have hne : gz h p ≠ gz h q := H.ne hp (by omega) (by omega)
  have rp : r ≠ p := fun h' => th_ne cp cq hne (by rw [← e, h'])
  have rq : r ≠ q := fun h' => th_ne2 cp cq hne (by rw [← e, h'])
  have e1 : third (gz h p) (gz h q) = gz h r := e.symm
  have e2 : third (gz h p) (gz h r) = gz h q := by rw [← e1, th_back cp cq]
  have e3 : third (gz h q) (gz h r) = gz h p := by rw [← e1, th_comm (gz h p), th_back cq cp]
  have mk : ∀ i j k : Nat, i < j → j < k → k < h.length → third (gz h i) (gz h j) = gz h k → (⟨(i : Int), (j : Int), (k : Int)⟩ : V3 Int) ∈ linesOf h := fun i j k a b c d => (mem_lines H).2 ⟨i, j, k, rfl, a, b, c, d⟩
  rcases Nat.lt_or_gt_of_ne rp with h1 | h1
  · rcases Nat.lt_or_gt_of_ne rq with h2 | h2
    · exact ⟨_, mk r q p h2 hpq hp (by rw [th_comm]; exact e3), onL_iff.2 (.inr (.inr rfl)), onL_iff.2 (.inr (.inl rfl))⟩
    · exact ⟨_, mk q r p h2 h1 hp e3, onL_iff.2 (.inr (.inr rfl)), onL_iff.2 (.inl rfl)⟩
  · exact ⟨_, mk q p r hpq h1 hr (by rw [th_comm]; exact e1), onL_iff.2 (.inr (.inl rfl)), onL_iff.2 (.inl rfl)⟩

/-! counting -/
theorem S_ind {n a : Nat} (h : a < n) (q : Nat → Bool) : (S n fun i => b2 (decide (a = i) && q i)) = b2 (q a) := by
  have z : ∀ m, m ≤ a → (S m fun i => b2 (decide (a = i) && q i)) = 0 := fun m hm => by
    rw [S_congr (g := fun _ => 0) fun i hi => by simp [b2, show ¬ a = i by omega], S_zero]
  induction n with
  | zero => omega
  | succ n ih =>
    rw [S]
    by_cases hn : a = n
    · subst hn; rw [z a (Nat.le_refl _)]; simp
    · rw [ih (by omega)]; simp [b2, hn]
theorem b2_or {a b c : Bool} (h1 : ¬ (a = true ∧ b = true)) (h2 : ¬ (a = true ∧ c = true)) (h3 : ¬ (b = true ∧ c = true)) : b2 (a || b || c) = b2 a + b2 b + b2 c := by
  cases a <;> cases b <;> cases c <;> simp_all [b2]
theorem S_on {n i j k : Nat} (hij : i < j) (hjk : j < k) (hk : k < n) (q : Nat → Bool) : (S n fun p => b2 (onL ⟨(i : Int), (j : Int), (k : Int)⟩ p && q p)) = b2 (q i) + b2 (q j) + b2 (q k) := by
  have e : ∀ p, b2 (onL ⟨(i : Int), (j : Int), (k : Int)⟩ p && q p) = b2 (decide (i = p) && q p) + b2 (decide (j = p) && q p) + b2 (decide (k = p) && q p) := fun p => by
    rw [← b2_or]
    · unfold onL
      simp only []
      have d : ∀ a : Nat, decide ((a : Int) = (p : Int)) = decide (a = p) := fun a => by congr 1; apply propext; omega
      rw [d, d, d]
      cases q p <;> simp
    all_goals
      simp only [Bool.and_eq_true, decide_eq_true_eq]
      omega
  rw [S_congr fun p _ => e p, S_add, S_add, S_ind (by omega), S_ind (by omega), S_ind hk]
theorem S_on3 {n : Nat} {h : List Card} (H : HandL h) (hn : h.length = n) {x : V3 Int} (hx : x ∈ linesOf h) : (S n fun p => b2 (onL x p)) = 3 := by
  obtain ⟨i, j, k, rfl, L⟩ := (mem_lines H).1 hx
  have := S_on L.ij L.jk (hn ▸ L.kl) fun _ => true
  simp only [Bool.and_true] at this
  rw [this]; rfl
/-- how many lines a place has -/
def cntL (h : List Card) (i : Nat) : Nat := (linesOf h).countP fun x => onL x i
theorem gl_mem {α : Type} {z : α} {l : List α} {i : Nat} (h : i < l.length) : gl z l i ∈ l := by rw [gl_eq h]; exact List.getElem_mem h
theorem sum_cnt {h : List Card} (H : HandL h) : S h.length (cntL h) = 3 * (linesOf h).length := by
  have e : ∀ i, i < h.length → cntL h i = S (linesOf h).length fun m => b2 (onL (gl ⟨0, 0, 0⟩ (linesOf h) m) i) := fun i _ => (S_countP (fun x => onL x i) ⟨0, 0, 0⟩ (linesOf h)).symm
  rw [S_congr e, S_swap (fun i m => b2 (onL (gl ⟨0, 0, 0⟩ (linesOf h) m) i)), S_congr (g := fun _ => 3) fun m hm => S_on3 H rfl (gl_mem hm), S_const, Nat.mul_comm]
theorem pair_third {h : List Card} (H : HandL h) {i k : Nat} (hk : k < i) (hi : i < h.length) : b2 (h.contains (third (gz h i) (gz h k))) = (linesOf h).countP fun x => onL x i && onL x k := by
  rw [countP_one (lines_nd H) fun a ha b hb pa pb => by
    rw [Bool.and_eq_true] at pa pb
    exact line_uniq H ha hb (p := i) (q := k) (by omega) pa.1 pa.2 pb.1 pb.2]
  congr 1
  rw [Bool.eq_iff_iff, List.any_eq_true]
  constructor
  · intro hm
    obtain ⟨x, hx, h1, h2⟩ := line_ex H hk hi hm
    exact ⟨x, hx, by rw [h1, h2]; rfl⟩
  · rintro ⟨x, hx, hp⟩
    rw [Bool.and_eq_true] at hp
    obtain ⟨a, b, c, rfl, L⟩ := (mem_lines H).1 hx
    obtain ⟨h1, h2⟩ := hp
    rw [onL_iff] at h1 h2
    simp only [] at h1 h2
    obtain ⟨r, r1, r2, r3, r4⟩ := line_rest H L (p := i) (q := k) (by omega) (by omega) (by omega)
    rw [← r3]
    exact List.contains_iff_mem.2 (gl_mem r2)
/-- pairs whose third card is there -/
theorem shut_pairs {h : List Card} (H : HandL h) : (T h.length fun i k => b2 (h.contains (third (gz h i) (gz h k)))) = 3 * (linesOf h).length := by
  have e : ∀ i k, k < i → i < h.length → b2 (h.contains (third (gz h i) (gz h k))) = S (linesOf h).length fun m => b2 (onL (gl ⟨0, 0, 0⟩ (linesOf h) m) i && onL (gl ⟨0, 0, 0⟩ (linesOf h) m) k) := fun i k hk hi => by
    rw [pair_third H hk hi, S_countP (fun x => onL x i && onL x k)]
  rw [T_congr e, T_swap (fun m i k => b2 (onL (gl ⟨0, 0, 0⟩ (linesOf h) m) i && onL (gl ⟨0, 0, 0⟩ (linesOf h) m) k)), S_congr (g := fun _ => 3) fun m hm => by
    rw [T_and (onL (gl ⟨0, 0, 0⟩ (linesOf h) m)), S_on3 H rfl (gl_mem hm)]; rfl, S_const, Nat.mul_comm]
theorem open_pairs {h : List Card} (H : HandL h) : (T h.length fun i k => b2 (!h.contains (third (gz h i) (gz h k)))) + 3 * (linesOf h).length = c2' h.length := by
  rw [← shut_pairs H, ← T_add]
  rw [T_congr (g := fun _ _ => 1) fun i k _ _ => by cases h.contains (third (gz h i) (gz h k)) <;> rfl, T_const, Nat.mul_one]
/-- how many places two lines have in common -/
def comm (a b : V3 Int) : Nat := hasn a.x0 b + hasn a.x1 b + hasn a.x2 b
theorem hasn_on {b : V3 Int} {i : Nat} : hasn (i : Int) b = b2 (onL b i) := by
  unfold hasn onL b2 V3.els
  have e : ([b.x0, b.x1, b.x2].contains (i : Int) = true) ↔ ((decide (b.x0 = (i : Int)) || decide (b.x1 = (i : Int)) || decide (b.x2 = (i : Int))) = true) := by
    simp only [List.contains_cons, List.contains_nil, Bool.or_false, Bool.or_eq_true, beq_iff_eq, decide_eq_true_eq]
    constructor
    · rintro (h | h | h) <;> simp [h]
    · rintro ((h | h) | h) <;> simp [h]
  by_cases h : ([b.x0, b.x1, b.x2].contains (i : Int) = true)
  · rw [if_pos h, if_pos (e.1 h)]
  · rw [if_neg h, if_neg fun h' => h (e.2 h')]
theorem comm_S {h : List Card} (H : HandL h) {a : V3 Int} (ha : a ∈ linesOf h) (b : V3 Int) : (S h.length fun i => b2 (onL a i && onL b i)) = comm a b := by
  obtain ⟨i, j, k, rfl, L⟩ := (mem_lines H).1 ha
  rw [S_on L.ij L.jk L.kl (onL b)]
  unfold comm
  simp only []
  rw [hasn_on, hasn_on, hasn_on]
theorem comm_le {h : List Card} (H : HandL h) {a b : V3 Int} (ha : a ∈ linesOf h) (hb : b ∈ linesOf h) (hne : a ≠ b) : comm a b ≤ 1 := by
  have ha' := ha
  obtain ⟨i, j, k, rfl, L⟩ := (mem_lines H).1 ha'
  have e1 := L.ij; have e2 := L.jk
  unfold comm
  simp only []
  rw [hasn_on, hasn_on, hasn_on]
  have oi : onL ⟨(i : Int), (j : Int), (k : Int)⟩ i = true := onL_iff.2 (.inl rfl)
  have oj : onL ⟨(i : Int), (j : Int), (k : Int)⟩ j = true := onL_iff.2 (.inr (.inl rfl))
  have ok : onL ⟨(i : Int), (j : Int), (k : Int)⟩ k = true := onL_iff.2 (.inr (.inr rfl))
  cases b1 : onL b i <;> cases b2' : onL b j <;> cases b3 : onL b k <;> simp [b2]
  · exact hne (line_uniq H ha hb (p := j) (q := k) (by omega) oj ok b2' b3)
  · exact hne (line_uniq H ha hb (p := i) (q := k) (by omega) oi ok b1 b3)
  · exact hne (line_uniq H ha hb (p := i) (q := j) (by omega) oi oj b1 b2')
  · exact hne (line_uniq H ha hb (p := i) (q := j) (by omega) oi oj b1 b2')
theorem common_comm {h : List Card} (H : HandL h) (a : V3 Int) {b : V3 Int} (hb : b ∈ linesOf h) : common a b = comm a b := by
  obtain ⟨i, j, k, rfl, L⟩ := (mem_lines H).1 hb
  have e1 := L.ij; have e2 := L.jk
  have key : ∀ x : Int, eqs x ⟨(i : Int), (j : Int), (k : Int)⟩ = hasn x ⟨(i : Int), (j : Int), (k : Int)⟩ := fun x => by
    rw [eqs_val]
    unfold eqn hasn V3.els V3.get
    simp only [List.contains_cons, List.contains_nil, Bool.or_false, Bool.or_eq_true, beq_iff_eq]
    by_cases h1 : x = (i : Int)
    · rw [if_pos h1, if_neg (show ¬ x = (j : Int) by omega), if_neg (show ¬ x = (k : Int) by omega), if_pos (.inl h1)]
    · by_cases h2 : x = (j : Int)
      · rw [if_neg h1, if_pos h2, if_neg (show ¬ x = (k : Int) by omega), if_pos (.inr (.inl h2))]
      · by_cases h3 : x = (k : Int)
        · rw [if_neg h1, if_neg h2, if_pos h3, if_pos (.inr (.inr h3))]
        · rw [if_neg h1, if_neg h2, if_neg h3, if_neg (by rintro (h | h | h) <;> contradiction)]
  rw [common_val, key, key, key]; rfl
/-- crossings -/
def cross (h : List Card) : Nat := T (linesOf h).length fun i k => comm (gl ⟨0, 0, 0⟩ (linesOf h) i) (gl ⟨0, 0, 0⟩ (linesOf h) k)
theorem cross_cnt {h : List Card} (H : HandL h) : (S h.length fun i => c2' (cntL h i)) = cross h := by
  have e : ∀ i, i < h.length → c2' (cntL h i) = T (linesOf h).length fun a b => b2 (onL (gl ⟨0, 0, 0⟩ (linesOf h) a) i && onL (gl ⟨0, 0, 0⟩ (linesOf h) b) i) := fun i _ => by
    rw [T_and fun m => onL (gl ⟨0, 0, 0⟩ (linesOf h) m) i]
    unfold cntL
    rw [← S_countP (fun x => onL x i) ⟨0, 0, 0⟩ (linesOf h)]
  rw [S_congr e, ← T_swap (fun i a b => b2 (onL (gl ⟨0, 0, 0⟩ (linesOf h) a) i && onL (gl ⟨0, 0, 0⟩ (linesOf h) b) i))]
  exact T_congr fun a b hab ha => comm_S H (gl_mem ha) _
theorem cross_one {h : List Card} (H : HandL h) : (T (linesOf h).length fun i k => b2 (decide (common (gl ⟨0, 0, 0⟩ (linesOf h) i) (gl ⟨0, 0, 0⟩ (linesOf h) k) = 1))) = cross h := by
  refine T_congr fun i k hk hi => ?_
  have hi' := gl_mem (z := (⟨0, 0, 0⟩ : V3 Int)) hi
  have hk' := gl_mem (z := (⟨0, 0, 0⟩ : V3 Int)) (show k < (linesOf h).length by omega)
  rw [common_comm H _ hk']
  have hne : gl (⟨0, 0, 0⟩ : V3 Int) (linesOf h) i ≠ gl (⟨0, 0, 0⟩ : V3 Int) (linesOf h) k := by
    rw [gl_eq hi, gl_eq (show k < (linesOf h).length by omega)]
    exact fun e => by have := (List.getElem_inj (lines_nd H)).1 e; omega
  have := comm_le H hi' hk' hne
  unfold b2
  by_cases h1 : comm (gl (⟨0, 0, 0⟩ : V3 Int) (linesOf h) i) (gl (⟨0, 0, 0⟩ : V3 Int) (linesOf h) k) = 1
  · simp [h1]
  · simp [h1]; omega
end Go.Pl

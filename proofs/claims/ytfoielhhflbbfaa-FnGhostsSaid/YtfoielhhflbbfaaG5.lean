/- Plain laws: LSo5, LSo6, LSpn, LCap. -/
import Derived.Test.YtfoielhhflbbfaaG4
import Derived.Test.YtfoielhhflbbfaaG1
import Derived.Test.YtfoielhhflbbfaaG0
import Derived.KernelRfl
set_option linter.unusedVariables false
set_option linter.unusedSimpArgs false
namespace Go.Pl
open Go Go.Tv Go.RowKit
set_option linter.unusedVariables false
def Low (d : List Card) (a b : Nat) : Prop := ∀ p, p < a → ∀ q, a ≤ q → q < b → nm d p ≤ nm d q
theorem Low.sw {a b : Nat} {d d' : List Card} (h : Low d a b) (hs : Sw a b d d') : Low d' a b := fun p hp q q1 q2 => by
  rw [hs.out (.inl hp)]
  exact hs.all (P := fun x => nm d p ≤ x) (h p hp) q q1 q2
def Done (a0 b0 a b : Nat) (d : List Card) : Prop := (∀ p, a0 ≤ p → p < a → ∀ q, p < q → q < b0 → nm d p ≤ nm d q) ∧ ∀ q, b ≤ q → q < b0 → ∀ p, a0 ≤ p → p < q → nm d p ≤ nm d q
theorem Done.sw {a0 b0 a b : Nat} {d d' : List Card} (h : Done a0 b0 a b d) (hs : Sw a b d d') (ha : a0 ≤ a) (hb : b ≤ b0) : Done a0 b0 a b d' := by
  obtain ⟨h1, h2⟩ := h
  refine ⟨fun p p1 p2 q q1 q2 => ?_, fun q q1 q2 p p1 p2 => ?_⟩
  · rw [hs.out (.inl p2)]
    by_cases hq : a ≤ q ∧ q < b
    · exact hs.all (P := fun x => nm d p ≤ x) (fun k k1 k2 => h1 p p1 p2 k (by omega) (by omega)) q hq.1 hq.2
    · rw [hs.out (by omega)]; exact h1 p p1 p2 q q1 q2
  · rw [hs.out (k := q) (.inr q1)]
    by_cases hq : a ≤ p ∧ p < b
    · exact hs.all (P := fun x => x ≤ nm d q) (fun k k1 k2 => h2 q q1 q2 k (by omega) (by omega)) p hq.1 hq.2
    · rw [hs.out (k := p) (by omega)]; exact h2 q q1 q2 p p1 p2
theorem Done.fin {a0 b0 a b : Nat} {d : List Card} (h : Done a0 b0 a b d) (hs : Srt d a b) : Srt d a0 b0 := fun p q p1 p2 p3 => by
  by_cases hp : p < a
  · exact h.1 p p1 hp q p2 p3
  · by_cases hq : b ≤ q
    · exact h.2 q hq p3 p p1 p2
    · exact hs p q (by omega) p2 (by omega)
structure QI (a0 b0 a b : Nat) (d0 d : List Card) : Prop where
  ha : a0 ≤ a
  ab : a ≤ b
  hb : b ≤ b0
  sw : Sw a0 b0 d0 d
  low : Low d a b
  dn : Done a0 b0 a b d
theorem QI.sws {a0 b0 a b : Nat} {d0 d d' : List Card} (I : QI a0 b0 a b d0 d) (hs : Sw a b d d') (hl : b0 ≤ d0.length) : QI a0 b0 a b d0 d' :=
  ⟨I.ha, I.ab, I.hb, I.sw.trans (hs.mono I.ha I.hb (by rw [I.sw.len]; exact hl)), I.low.sw hs, I.dn.sw hs I.ha I.hb⟩
theorem QI.out {a0 b0 a b : Nat} {d0 d : List Card} (I : QI a0 b0 a b d0 d) {o : Opt (List Card)} (h : Post a b d o) (hl : b0 ≤ d0.length) : Post a0 b0 d0 o := by
  obtain ⟨e, rfl, h1, h2⟩ := h
  have I2 := I.sws h1 hl
  exact ⟨e, rfl, I2.sw, I2.dn.fin h2⟩
end Go.Pl
namespace Go.Pl
open Go Go.Tv Go.RowKit
set_option linter.unusedVariables false
def SS (l : List Card) : Prop := l.Pairwise fun a b => num a < num b
def ins (c : Card) : List Card → List Card
  | [] => [c]
  | x :: l => if num x < num c then x :: ins c l else if x = c then x :: l else c :: x :: l
theorem ins_mem {c d : Card} : ∀ {l : List Card}, d ∈ ins c l ↔ d = c ∨ d ∈ l
  | [] => by simp [ins]
  | x :: l => by
    unfold ins
    split
    · rw [List.mem_cons, ins_mem, List.mem_cons]
      constructor
      · rintro (h | h | h) <;> simp [h]
      · rintro (h | h | h) <;> simp [h]
    · split
      · rename_i h; subst h
        constructor
        · intro h; exact .inr h
        · rintro (h | h)
          · subst h; exact List.mem_cons_self
          · exact h
      · rw [List.mem_cons]
theorem ins_ss {c : Card} (hc : isC c = true) : ∀ {l : List Card}, AllC l → SS l → SS (ins c l)
  | [], _, _ => List.pairwise_cons.2 ⟨fun _ h => (by cases h), List.Pairwise.nil⟩
  | x :: l, ha, h => by
    obtain ⟨h1, h2⟩ := List.pairwise_cons.1 h
    unfold ins
    split
    · rename_i hlt
      refine List.pairwise_cons.2 ⟨fun d hd => ?_, ins_ss hc (fun d hd => ha d (List.mem_cons_of_mem _ hd)) h2⟩
      rcases ins_mem.1 hd with rfl | hd
      · exact hlt
      · exact h1 d hd
    · rename_i hlt
      split
      · exact h
      · rename_i hne
        have hx : num c < num x := by
          have : num c ≠ num x := fun e => hne (num_inj (ha x List.mem_cons_self) hc e.symm)
          omega
        refine List.pairwise_cons.2 ⟨fun d hd => ?_, h⟩
        rcases List.mem_cons.1 hd with rfl | hd
        · exact hx
        · have := h1 d hd; omega
theorem ins_allC {c : Card} (hc : isC c = true) {l : List Card} (h : AllC l) : AllC (ins c l) := fun d hd => by
  rcases ins_mem.1 hd with rfl | hd
  · exact hc
  · exact h d hd
theorem ins_len {c : Card} : ∀ {l : List Card}, (ins c l).length ≤ l.length + 1
  | [] => Nat.le_refl _
  | x :: l => by
    have := ins_len (c := c) (l := l)
    unfold ins
    split
    · simp only [List.length_cons]; omega
    · split <;> simp only [List.length_cons] <;> omega
theorem s_l2Put_eq {n : Nat} (hn : BIG ≤ n) {h : List Card} (hh : AllC h) (hl : h.length ≤ 1000000) {c : Card} (hc : isC c = true) : s_l2Put n h c = some (ins c h) := by
  unfold s_l2Put
  have := fx_cnt (B := s_l2Put_L1 n) h.length (fun i => (h, (i : Int), c)) (fun _ => True) (fun i => some (h.take i ++ ins c (h.drop i))) (fun self i hi _ hself => by
    simp only [s_l2Put_L1]
    by_cases h1 : i < h.length
    · have hci : isC (gl (⟨0, 0, 0, 0⟩ : Card) h i) = true := gl_C hh h1
      have e1 : decide ((i : Int) < (h.length : Int)) = true := decide_eq_true (by omega)
      simp only [e1, br_true]
      rw [ckb_pos (inb_ok h1), toNat_cast, s_l2Less_eq hci hc, ob_some, ob_some, drop_cons h1, gl_eq h1]
      unfold ins
      by_cases hlt : num h[i] < num c
      · rw [br_pos (decide_eq_true hlt), if_pos hlt, lt_eq, w64_succ (by omega), hself h1 trivial, take_snoc h1, List.append_assoc]; rfl
      · rw [br_neg (decide_eq_false hlt), if_neg hlt, ckb_pos (inb_ok h1), ob_some]
        by_cases he : h[i] = c
        · rw [br_pos (show eqd h[i] c = true from decide_eq_true he), if_pos he, s_l2Own_eq (by omega), ob_some, ← drop_cons h1, List.take_append_drop]
        · have el : (sub h 0 i).length = i := by simp [sub]; omega
          rw [br_neg (show eqd h[i] c = false from decide_eq_false he), if_neg he, ckb_pos (slb_ok (by omega) (by omega) (by omega)), s_l2Own_eq (by rw [el]; omega), ob_some, ckb_pos (apok_ok (by rw [el]; omega) (by rw [el]; omega)),
            ckb_pos (slb_ok (by omega) (by omega) (by omega)), ckb_pos (apok_ok (by simp [sub]; omega) (by simp [sub]; omega))]
          congr 1
          unfold sub
          rw [List.append_assoc, ← drop_cons h1]
          simp
          exact List.take_of_length_le (by simp)
    · have e1 : decide ((i : Int) < (h.length : Int)) = false := decide_eq_false (by omega)
      have e2 : i = h.length := by omega
      have el : (sub h 0 i).length = i := by simp [sub]; omega
      simp only [e1, br_false, ob_some]
      rw [toNat_cast, ckb_pos (slb_ok (by omega) (by omega) (by omega)), s_l2Own_eq (by rw [el]; omega), ob_some, ckb_pos (apok_ok (by rw [el]; omega) (by rw [el]; omega)),
            ckb_pos (slb_ok (by omega) (by omega) (by omega)), ckb_pos (apok_ok (by simp [sub]; omega) (by simp [sub]; omega))]
      congr 1
      unfold sub
      rw [e2]; simp [ins]) n 0 (Nat.zero_le _) trivial (big_gt hn (by omega))
  simpa using this
def sortd (l : List Card) : List Card := l.foldl (fun a c => ins c a) []
theorem sortd_go : ∀ (l a : List Card), AllC l → AllC a → SS a → AllC (l.foldl (fun a c => ins c a) a) ∧ SS (l.foldl (fun a c => ins c a) a) ∧ (∀ c, c ∈ l.foldl (fun a c => ins c a) a ↔ c ∈ l ∨ c ∈ a) ∧ (l.foldl (fun a c => ins c a) a).length ≤ l.length + a.length
  | [], a, _, ha, hs => ⟨ha, hs, fun c => by simp, by simp⟩
  | x :: l, a, hl, ha, hs => by
    have hx := hl x List.mem_cons_self
    obtain ⟨h1, h2, h3, h4⟩ := sortd_go l (ins x a) (fun c hc => hl c (List.mem_cons_of_mem _ hc)) (ins_allC hx ha) (ins_ss hx ha hs)
    refine ⟨h1, h2, fun c => ?_, ?_⟩
    · rw [List.foldl_cons, h3 c, ins_mem, List.mem_cons]
      constructor
      · rintro (h | h | h) <;> simp [h]
      · rintro ((h | h) | h) <;> simp [h]
    · have := ins_len (c := x) (l := a)
      rw [List.foldl_cons, List.length_cons]; omega
theorem sortd_ok {l : List Card} (hl : AllC l) : AllC (sortd l) ∧ SS (sortd l) ∧ (∀ c, c ∈ sortd l ↔ c ∈ l) ∧ (sortd l).length ≤ l.length := by
  obtain ⟨h1, h2, h3, h4⟩ := sortd_go l [] hl (fun c hc => (by cases hc)) List.Pairwise.nil
  exact ⟨h1, h2, fun c => by rw [sortd, h3 c]; simp, by rw [sortd]; simpa using h4⟩
theorem s_l2Sorted_eq {n : Nat} (hn : BIG ≤ n) {l : List Card} (hl : AllC l) (hlen : l.length ≤ 1000000) : s_l2Sorted n l = some (sortd l) := by
  unfold s_l2Sorted
  have := fx_foldl (B := s_l2Sorted_L1 n) l (fun i a => (l, (i : Int), a)) (fun a c => ins c a) some (fun i a => AllC a ∧ a.length ≤ i) (fun i a h ⟨h1, h2⟩ => ⟨ins_allC (hl _ (List.getElem_mem h)) h1, by
      have := ins_len (c := l[i]) (l := a); omega⟩) (fun self i a h ⟨h1, h2⟩ => by
    have e1 : decide ((i : Int) < (l.length : Int)) = true := decide_eq_true (by omega)
    simp only [s_l2Sorted_L1, e1, br_true]
    rw [ckb_pos (inb_ok h), toNat_cast, gl_eq h, s_l2Put_eq hn h1 (by omega) (hl _ (List.getElem_mem h)), ob_some, lt_eq, w64_succ (by omega)]) (fun self a _ => by
    have e1 : decide ((l.length : Int) < (l.length : Int)) = false := decide_eq_false (by omega)
    simp only [s_l2Sorted_L1, e1, br_false]) n (big_gt hn (by omega)) [] ⟨fun c hc => (by cases hc), Nat.le_refl _⟩
  simpa [sortd] using this
theorem mem_gl {d : List Card} {c : Card} : c ∈ d ↔ ∃ q, q < d.length ∧ gl (⟨0, 0, 0, 0⟩ : Card) d q = c := by
  constructor
  · intro h
    obtain ⟨q, hq, e⟩ := List.getElem_of_mem h
    exact ⟨q, hq, by rw [gl_eq hq, e]⟩
  · rintro ⟨q, hq, e⟩
    rw [gl_eq hq] at e
    exact e ▸ List.getElem_mem hq
end Go.Pl
namespace Go.Pl
open Go Go.Tv Go.RowKit
set_option linter.unusedVariables false
theorem len_sub' {α : Type} [DecidableEq α] : ∀ {M L : List α}, M.Nodup → (∀ x ∈ M, x ∈ L) → M.length ≤ L.length
  | [], _, _, _ => Nat.zero_le _
  | a :: M, L, h, hs => by
    obtain ⟨h1, h2⟩ := List.nodup_cons.1 h
    have ha := hs a List.mem_cons_self
    have := len_sub' (M := M) (L := L.erase a) h2 fun x hx => (List.mem_erase_of_ne (fun e => h1 (by rw [← e]; exact hx))).2 (hs x (List.mem_cons_of_mem _ hx))
    rw [List.length_erase_of_mem ha] at this
    have := List.length_pos_of_mem ha
    rw [List.length_cons]; omega
theorem SS.nodup {l : List Card} (h : SS l) : l.Nodup := List.Pairwise.imp (fun hab heq => by rw [heq] at hab; exact absurd hab (Int.lt_irrefl _)) h
theorem nodup_len81 {l : List Card} (h : l.Nodup) (hc : AllC l) : l.length ≤ 81 := by
  have := len_sub' (L := cards81) h fun x hx => mem_cards81 (hc x hx)
  have e : cards81.length = 81 := by unfold cards81; simp
  omega
theorem SS.handL {l : List Card} (h : SS l) (hc : AllC l) : HandL l := ⟨hc, h.nodup, by have := nodup_len81 h.nodup hc; omega⟩
inductive InSp (l : List Card) : Card → Prop
  | base {c : Card} (h : c ∈ l) : InSp l c
  | th {a b : Card} (ha : InSp l a) (hb : InSp l b) : InSp l (third a b)
theorem InSp.isC {l : List Card} (hl : AllC l) {c : Card} (h : InSp l c) : isC c = true := by
  induction h with
  | base h => exact hl _ h
  | th _ _ ha hb => exact third_isC ha hb
structure SpanR (l r : List Card) : Prop where
  ss : SS r
  c : AllC r
  mem : ∀ c, c ∈ r ↔ InSp l c
theorem closed_span {l r : List Card} (hs : SS r) (hc : AllC r) (h1 : ∀ c ∈ r, InSp l c) (h2 : ∀ c ∈ l, c ∈ r) (h3 : ∀ p q, q < p → p < r.length → third (gl ⟨0, 0, 0, 0⟩ r p) (gl ⟨0, 0, 0, 0⟩ r q) ∈ r) : SpanR l r := by
  refine ⟨hs, hc, fun c => ⟨h1 c, fun h => ?_⟩⟩
  induction h with
  | base h => exact h2 _ h
  | @th a b ha hb ia ib =>
    obtain ⟨p, hp, rfl⟩ := mem_gl.1 ia
    obtain ⟨q, hq, rfl⟩ := mem_gl.1 ib
    rcases Nat.lt_trichotomy q p with h | h | h
    · exact h3 p q h hp
    · subst h; rw [th_self (gl_C hc hp)]; exact ia
    · rw [th_comm]; exact h3 q p h hq
structure SpI (l : List Card) (i : Nat) (r : List Card) : Prop where
  ss : SS r
  c : AllC r
  il : i ≤ r.length
  sub : ∀ c ∈ r, InSp l c
  sup : ∀ c ∈ l, c ∈ r
  cl : ∀ p q, q < p → p < i → third (gl ⟨0, 0, 0, 0⟩ r p) (gl ⟨0, 0, 0, 0⟩ r q) ∈ r
theorem ins_new {c : Card} : ∀ {l : List Card}, c ∉ l → (ins c l).length = l.length + 1
  | [], _ => rfl
  | x :: l, h => by
    have h1 : ¬ x = c := fun e => h (e ▸ List.mem_cons_self)
    have h2 : c ∉ l := fun e => h (List.mem_cons_of_mem _ e)
    unfold ins
    split
    · rw [List.length_cons, ins_new h2, List.length_cons]
    · rfl
theorem s_l6Span_ok {n : Nat} (hn : BIG ≤ n) {l : List Card} (hl : AllC l) (hlen : l.length ≤ 1000000) : ∃ r, s_l6Span n l = some r ∧ SpanR l r := by
  unfold s_l6Span
  obtain ⟨a1, a2, a3, a4⟩ := sortd_ok hl
  rw [s_l2Sorted_eq hn hl hlen, ob_some]
  refine fx_inv (B := s_l6Span_L2 n) (fun s => ∃ (i : Nat) (r : List Card), s = ((i : Int), r) ∧ SpI l i r) (fun s => (81 - s.2.length) * 200 + (100 - s.1.toNat)) (fun o => ∃ r, o = some r ∧ SpanR l r) ?_ n _
    ⟨0, sortd l, rfl, a2, a1, by omega, fun c hc => .base ((a3 c).1 hc), fun c hc => (a3 c).2 hc, fun p q _ h => by omega⟩ (big_gt hn (by simp only []; omega))
  rintro self _ ⟨i, r, rfl, I⟩ ih
  have hr81 := nodup_len81 I.ss.nodup I.c
  simp only [s_l6Span_L2]
  by_cases hi : i < r.length
  · rw [br_pos (decide_eq_true (show (i : Int) < (r.length : Int) by omega))]
    refine fx_inv (B := s_l6Span_L1 n self) (fun s => ∃ (j k : Nat) (e : List Card), s = ((j : Int), (k : Int), e) ∧ SpI l j e ∧ k ≤ j ∧ j < e.length ∧ (∀ q, q < k → third (gl ⟨0, 0, 0, 0⟩ e j) (gl ⟨0, 0, 0, 0⟩ e q) ∈ e) ∧ (r.length < e.length ∨ r.length = e.length ∧ i ≤ j))
      (fun s => (81 - s.2.2.length) * 200 + (100 - s.2.1.toNat)) (fun o => ∃ r, o = some r ∧ SpanR l r) ?_ n _ ⟨i, 0, r, rfl, I, by omega, hi, fun q h => by omega, .inr ⟨rfl, Nat.le_refl _⟩⟩ (big_gt hn (by simp only []; omega))
    rintro self2 _ ⟨j, k, e, rfl, J, hkj, hj, hq, hlen2⟩ ih2
    have he81 := nodup_len81 J.ss.nodup J.c
    have HL := J.ss.handL J.c
    simp only [s_l6Span_L1, lt_eq]
    by_cases hk : k < j
    · rw [br_pos (decide_eq_true (show (k : Int) < (j : Int) by omega)), ckb_pos (inb_ok hj), ckb_pos (inb_ok (by omega)), toNat_cast, toNat_cast, s_l2Third_eq hn (gl_C J.c hj) (gl_C J.c (by omega)), ob_some, s_l2Has_eq hn (by omega), ob_some]
      have hct := third_isC (gl_C J.c hj) (gl_C J.c (show k < e.length by omega))
      cases hc : e.contains (third (gl ⟨0, 0, 0, 0⟩ e j) (gl ⟨0, 0, 0, 0⟩ e k)) with
      | true =>
        rw [Bool.not_true, br_false, w64_succ (by omega)]
        refine ih2 _ ⟨j, k + 1, e, rfl, J, by omega, hj, fun q h => ?_, hlen2⟩ (by simp only []; omega)
        by_cases hqk : q = k
        · subst hqk; exact List.contains_iff_mem.1 hc
        · exact hq q (by omega)
      | false =>
        have hnm : third (gl ⟨0, 0, 0, 0⟩ e j) (gl ⟨0, 0, 0, 0⟩ e k) ∉ e := fun h => by rw [List.contains_iff_mem.2 h] at hc; cases hc
        have hil := ins_new hnm
        rw [Bool.not_false, br_true, s_l2Put_eq hn J.c (by omega) hct, ob_some]
        have e0 : w64 (-1 + 1) = 0 := by decide
        rw [e0]
        have hnew81 := nodup_len81 (ins_ss hct J.c J.ss).nodup (ins_allC hct J.c)
        refine ih2 _ ⟨0, 0, _, rfl, ⟨ins_ss hct J.c J.ss, ins_allC hct J.c, by omega, fun c hc => ?_, fun c hc => ins_mem.2 (.inr (J.sup c hc)), fun p q _ h => by omega⟩, by omega, by omega, fun q h => by omega, .inl (by omega)⟩ (by simp only []; omega)
        rcases ins_mem.1 hc with rfl | hc
        · exact .th (J.sub _ (mem_gl.2 ⟨j, hj, rfl⟩)) (J.sub _ (mem_gl.2 ⟨k, by omega, rfl⟩))
        · exact J.sub c hc
    · have hkj' : k = j := by omega
      rw [br_neg (decide_eq_false (by omega)), w64_succ (by omega)]
      refine ih _ ⟨j + 1, e, rfl, ⟨J.ss, J.c, by omega, J.sub, J.sup, fun p q h1 h2 => ?_⟩⟩ (by simp only []; omega)
      by_cases hp : p = j
      · subst hp; exact hq q (by omega)
      · exact J.cl p q h1 (by omega)
  · have : i = r.length := by have := I.il; omega
    subst this
    rw [br_neg (decide_eq_false (by omega))]
    exact ⟨r, rfl, closed_span I.ss I.c I.sub I.sup I.cl⟩
end Go.Pl
namespace Go.Cap
structure Pt where (x0 x1 x2 x3 : Int)
  deriving DecidableEq
def ptN (k : Nat) : Pt := ⟨((k / 27 : Nat) : Int), ((k / 9 % 3 : Nat) : Int), ((k / 3 % 3 : Nat) : Int), ((k % 3 : Nat) : Int)⟩
def all81 : List Pt := (List.range 81).map ptN
def isP (c : Pt) : Prop := (0 ≤ c.x0 ∧ c.x0 ≤ 2) ∧ (0 ≤ c.x1 ∧ c.x1 ≤ 2) ∧ (0 ≤ c.x2 ∧ c.x2 ≤ 2) ∧ 0 ≤ c.x3 ∧ c.x3 ≤ 2
theorem mem_all81 {c : Pt} (h : isP c) : c ∈ all81 := by
  obtain ⟨c0, c1, c2, c3⟩ := c
  unfold isP at h
  simp only at h
  refine List.mem_map.2 ⟨(27 * c0 + 9 * c1 + 3 * c2 + c3).toNat, by rw [List.mem_range]; omega, ?_⟩
  unfold ptN
  congr 1 <;> omega
def pz : Pt := ⟨0, 0, 0, 0⟩
def dot (w c : Pt) : Int := (w.x0 * c.x0 + w.x1 * c.x1 + w.x2 * c.x2 + w.x3 * c.x3) % 3
def df (a b : Pt) : Pt := ⟨(b.x0 - a.x0) % 3, (b.x1 - a.x1) % 3, (b.x2 - a.x2) % 3, (b.x3 - a.x3) % 3⟩
def neg (d : Pt) : Pt := ⟨(0 - d.x0) % 3, (0 - d.x1) % 3, (0 - d.x2) % 3, (0 - d.x3) % 3⟩
def th (a b : Pt) : Pt := ⟨(6 - a.x0 - b.x0) % 3, (6 - a.x1 - b.x1) % 3, (6 - a.x2 - b.x2) % 3, (6 - a.x3 - b.x3) % 3⟩
theorem df_isP (a b : Pt) : isP (df a b) := by unfold isP df; simp only []; omega
theorem mulmod (w x : Int) : ∃ q : Int, w * (x % 3) = w * x - 3 * q := by
  refine ⟨w * (x / 3), ?_⟩
  have h : x % 3 = x - 3 * (x / 3) := by omega
  rw [h, Int.mul_sub, ← Int.mul_assoc, ← Int.mul_assoc, Int.mul_comm w 3]
theorem dot_df (w a b : Pt) : dot w (df a b) = (dot w b - dot w a) % 3 := by
  unfold dot df
  simp only []
  obtain ⟨q0, h0⟩ := mulmod w.x0 (b.x0 - a.x0)
  obtain ⟨q1, h1⟩ := mulmod w.x1 (b.x1 - a.x1)
  obtain ⟨q2, h2⟩ := mulmod w.x2 (b.x2 - a.x2)
  obtain ⟨q3, h3⟩ := mulmod w.x3 (b.x3 - a.x3)
  rw [h0, h1, h2, h3, Int.mul_sub, Int.mul_sub, Int.mul_sub, Int.mul_sub]
  omega
theorem dot_bd (w a : Pt) : dot w a = 0 ∨ dot w a = 1 ∨ dot w a = 2 := by unfold dot; omega
theorem dot_eq_iff (w a b : Pt) : dot w a = dot w b ↔ dot w (df a b) = 0 := by
  rw [dot_df]
  have := dot_bd w a; have := dot_bd w b
  omega
theorem df_ne {a b : Pt} (ha : isP a) (hb : isP b) (h : a ≠ b) : df a b ≠ pz := by
  intro e
  apply h
  cases a; cases b
  unfold isP at ha hb
  unfold df pz at e
  simp only [Pt.mk.injEq] at ha hb e ⊢
  omega
theorem df_inj {a b c : Pt} (hb : isP b) (hc : isP c) (h : df a b = df a c) : b = c := by
  cases a; cases b; cases c
  unfold isP at hb hc
  unfold df at h
  simp only [Pt.mk.injEq] at hb hc h ⊢
  omega
theorem df_neg {a b c : Pt} (ha : isP a) (hb : isP b) (hc : isP c) (h : df a c = neg (df a b)) : th a b = c := by
  cases a; cases b; cases c
  unfold isP at ha hb hc
  unfold df neg at h
  unfold th
  simp only [Pt.mk.injEq] at ha hb hc h ⊢
  omega
def first1 (w : Pt) : Bool := if w.x0 = 0 then (if w.x1 = 0 then (if w.x2 = 0 then decide (w.x3 = 1) else decide (w.x2 = 1)) else decide (w.x1 = 1)) else decide (w.x0 = 1)
def W40 : List Pt := all81.filter first1
def chk2 : Bool := all81.all fun d => decide (d = pz) || Nat.beq (W40.countP fun w => decide (dot w d = 0)) 13
def chk3 : Bool := all81.all fun d => decide (d = pz) || all81.all fun e => decide (e = pz) || decide (e = d) || decide (e = neg d) || Nat.beq ((W40.filter fun w => decide (dot w d = 0)).countP fun w => decide (dot w e = 0)) 4
theorem chk2_ok : chk2 = true := by kernel_rfl
theorem chk3_ok : chk3 = true := by kernel_rfl
theorem W40_len : W40.length = 40 := by kernel_rfl
end Go.Cap

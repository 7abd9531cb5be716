/- Plain laws: LX1, L81, LQ, LR, LTh, LSpn, LSpi. -/
import Derived.Test.YtfoielhhflbbfaaG0
import Derived.KernelRfl
import Derived.Test.YtfoielhhflbbfaaG2
import Derived.Test.YtfoielhhflbbfaaPL
set_option linter.unusedVariables false
set_option linter.unusedSimpArgs false
namespace Go.Pl
open Go Go.Tv Go.RowKit
end Go.Pl
namespace Go.Pl
open Go Go.Tv Go.RowKit
def cardN (k : Nat) : Card := ⟨((k / 27 : Nat) : Int), ((k / 9 % 3 : Nat) : Int), ((k / 3 % 3 : Nat) : Int), ((k % 3 : Nat) : Int)⟩
def cards81 : List Card := (List.range 81).map cardN
theorem mem_cards81 {c : Card} (h : isC c = true) : c ∈ cards81 := by
  rw [isC_iff] at h
  obtain ⟨c0, c1, c2, c3⟩ := c
  simp only at h
  refine List.mem_map.2 ⟨(27 * c0 + 9 * c1 + 3 * c2 + c3).toNat, by rw [List.mem_range]; omega, ?_⟩
  unfold cardN
  congr 1 <;> omega
end Go.Pl
namespace Go.Pl
open Go Go.Tv Go.RowKit
set_option linter.unusedVariables false
end Go.Pl
namespace Go.Pl
open Go Go.Tv Go.RowKit
set_option linter.unusedVariables false
theorem has_any (l : List Card) (c : Card) : (l.any fun x => decide (x = c)) = l.contains c := by
  induction l with
  | nil => rfl
  | cons a t ih =>
    rw [List.any_cons, List.contains_cons, ih]
    congr 1
    by_cases h : a = c
    · rw [h]; simp
    · rw [decide_eq_false h]; exact (beq_eq_false_iff_ne.2 (Ne.symm h)).symm
theorem s_l2Has_eq {n : Nat} (hn : BIG ≤ n) {h : List Card} (hl : h.length ≤ 9223372036854775807) (c : Card) : s_l2Has n h c = some (h.contains c) := by
  unfold s_l2Has
  rw [s_l2Place_eq hn hl, ob_some]
  have e : decide (0 ≤ place h c) = (h.findIdx? fun x => decide (x = c)).isSome := by
    unfold place placeI
    cases hq : h.findIdx? fun x => decide (x = c) with
    | none => rfl
    | some i => exact decide_eq_true (by simp only []; omega)
  rw [e, findIdx?_any, has_any]
end Go.Pl
namespace Go.Pl
open Go Go.Tv Go.RowKit
set_option linter.unusedVariables false
theorem t3_in012 {x : Int} (h : 0 ≤ x ∧ x ≤ 2) : x = 0 ∨ x = 1 ∨ x = 2 := by omega
theorem t3_self {x : Int} (h : 0 ≤ x ∧ x ≤ 2) : t3 x x = x := by rcases t3_in012 h with rfl | rfl | rfl <;> decide
theorem t3_back' {x y : Int} (hx : 0 ≤ x ∧ x ≤ 2) (hy : 0 ≤ y ∧ y ≤ 2) : t3 x (t3 x y) = y := by
  rcases t3_in012 hx with rfl | rfl | rfl <;> rcases t3_in012 hy with rfl | rfl | rfl <;> decide
theorem th_self {a : Card} (h : isC a = true) : third a a = a := by
  rw [isC_iff] at h
  unfold third
  rw [t3_self h.1, t3_self h.2.1, t3_self h.2.2.1, t3_self h.2.2.2]
theorem th_comm (a b : Card) : third a b = third b a := by
  have e : ∀ x y : Int, t3 x y = t3 y x := fun x y => by unfold t3; congr 1; omega
  unfold third; rw [e a.x0, e a.x1, e a.x2, e a.x3]
theorem th_back {a b : Card} (ha : isC a = true) (hb : isC b = true) : third a (third a b) = b := by
  rw [isC_iff] at ha hb
  unfold third
  simp only []
  rw [t3_back' ha.1 hb.1, t3_back' ha.2.1 hb.2.1, t3_back' ha.2.2.1 hb.2.2.1, t3_back' ha.2.2.2 hb.2.2.2]
structure HandL (h : List Card) : Prop where
  c : AllC h
  nd : h.Nodup
  len : h.length ≤ 100
theorem HandL.of {h : List Card} (hh : hand h = true) : HandL h := ⟨hand_all hh, hand_nodup hh, by have := hand_len hh; omega⟩
theorem HandL.ne {h : List Card} (H : HandL h) {i j : Nat} (hi : i < h.length) (hj : j < h.length) (hne : i ≠ j) : gl (⟨0, 0, 0, 0⟩ : Card) h i ≠ gl (⟨0, 0, 0, 0⟩ : Card) h j := by
  rw [gl_eq hi, gl_eq hj]
  exact fun e => hne ((List.getElem_inj H.nd).1 e)
def pr1 (h : List Card) (c : Card) (i j : Nat) : List (V2 Int) := if lineB (gl ⟨0, 0, 0, 0⟩ h i) (gl ⟨0, 0, 0, 0⟩ h j) c = true then [⟨i, j⟩] else []
def pr2 (h : List Card) (c : Card) (i : Nat) : List (V2 Int) := (List.range' (i + 1) (h.length - (i + 1))).flatMap (pr1 h c i)
def prs (h : List Card) (c : Card) : List (V2 Int) := (List.range' 0 (h.length - 0)).flatMap (pr2 h c)
def thr (h : List Card) (c : Card) : Nat := (prs h c).length
def outOK (h : List Card) (b : Bool) (k : Nat) : Bool := !h.contains (cardAt k) && (decide (0 < thr h (cardAt k)) == b)
end Go.Pl
namespace Go.Pl
open Go Go.Tv Go.RowKit
set_option linter.unusedVariables false
theorem len_sub' {α : Type} [DecidableEq α] : ∀ {M L : List α}, M.Nodup → (∀ x ∈ M, x ∈ L) → M.length ≤ L.length
  | [], _, _, _ => Nat.zero_le _
  | a :: M, L, h, hs => by
    obtain ⟨h1, h2⟩ := List.nodup_cons.1 h
    have ha := hs a List.mem_cons_self
    have := len_sub' (M := M) (L := L.erase a) h2 fun x hx => (List.mem_erase_of_ne (fun e => h1 (by rw [← e]; exact hx))).2 (hs x (List.mem_cons_of_mem _ hx))
    rw [List.length_erase_of_mem ha] at this
    have := List.length_pos_of_mem ha
    rw [List.length_cons]; omega
theorem SS.nodup {l : List Card} (h : SS l) : l.Nodup := List.Pairwise.imp (fun hab heq => by rw [heq] at hab; exact absurd hab (Int.lt_irrefl _)) h
theorem nodup_len81 {l : List Card} (h : l.Nodup) (hc : AllC l) : l.length ≤ 81 := by
  have := len_sub' (L := cards81) h fun x hx => mem_cards81 (hc x hx)
  have e : cards81.length = 81 := by unfold cards81; simp
  omega
theorem SS.handL {l : List Card} (h : SS l) (hc : AllC l) : HandL l := ⟨hc, h.nodup, by have := nodup_len81 h.nodup hc; omega⟩
inductive InSp (l : List Card) : Card → Prop
  | base {c : Card} (h : c ∈ l) : InSp l c
  | th {a b : Card} (ha : InSp l a) (hb : InSp l b) : InSp l (third a b)
theorem InSp.isC {l : List Card} (hl : AllC l) {c : Card} (h : InSp l c) : isC c = true := by
  induction h with
  | base h => exact hl _ h
  | th _ _ ha hb => exact third_isC ha hb
structure SpanR (l r : List Card) : Prop where
  ss : SS r
  c : AllC r
  mem : ∀ c, c ∈ r ↔ InSp l c
theorem SpanR.uniq {l r r' : List Card} (h : SpanR l r) (h' : SpanR l r') : r = r' := ss_uniq h.ss h'.ss fun c => by rw [h.mem, h'.mem]
theorem SpanR.closed {l r : List Card} (h : SpanR l r) {a b : Card} (ha : a ∈ r) (hb : b ∈ r) : third a b ∈ r := (h.mem _).2 (.th ((h.mem a).1 ha) ((h.mem b).1 hb))
theorem closed_span {l r : List Card} (hs : SS r) (hc : AllC r) (h1 : ∀ c ∈ r, InSp l c) (h2 : ∀ c ∈ l, c ∈ r) (h3 : ∀ p q, q < p → p < r.length → third (gl ⟨0, 0, 0, 0⟩ r p) (gl ⟨0, 0, 0, 0⟩ r q) ∈ r) : SpanR l r := by
  refine ⟨hs, hc, fun c => ⟨h1 c, fun h => ?_⟩⟩
  induction h with
  | base h => exact h2 _ h
  | @th a b ha hb ia ib =>
    obtain ⟨p, hp, rfl⟩ := mem_gl.1 ia
    obtain ⟨q, hq, rfl⟩ := mem_gl.1 ib
    rcases Nat.lt_trichotomy q p with h | h | h
    · exact h3 p q h hp
    · subst h; rw [th_self (gl_C hc hp)]; exact ia
    · rw [th_comm]; exact h3 q p h hq
structure SpI (l : List Card) (i : Nat) (r : List Card) : Prop where
  ss : SS r
  c : AllC r
  il : i ≤ r.length
  sub : ∀ c ∈ r, InSp l c
  sup : ∀ c ∈ l, c ∈ r
  cl : ∀ p q, q < p → p < i → third (gl ⟨0, 0, 0, 0⟩ r p) (gl ⟨0, 0, 0, 0⟩ r q) ∈ r
theorem ins_new {c : Card} : ∀ {l : List Card}, c ∉ l → (ins c l).length = l.length + 1
  | [], _ => rfl
  | x :: l, h => by
    have h1 : ¬ x = c := fun e => h (e ▸ List.mem_cons_self)
    have h2 : c ∉ l := fun e => h (List.mem_cons_of_mem _ e)
    unfold ins
    split
    · rw [List.length_cons, ins_new h2, List.length_cons]
    · rfl
theorem s_l6Span_ok {n : Nat} (hn : BIG ≤ n) {l : List Card} (hl : AllC l) (hlen : l.length ≤ 1000000) : ∃ r, s_l6Span n l = some r ∧ SpanR l r := by
  unfold s_l6Span
  obtain ⟨a1, a2, a3, a4⟩ := sortd_ok hl
  rw [s_l2Sorted_eq hn hl hlen, ob_some]
  refine fx_inv (B := s_l6Span_L2 n) (fun s => ∃ (i : Nat) (r : List Card), s = ((i : Int), r) ∧ SpI l i r) (fun s => (81 - s.2.length) * 200 + (100 - s.1.toNat)) (fun o => ∃ r, o = some r ∧ SpanR l r) ?_ n _
    ⟨0, sortd l, rfl, a2, a1, by omega, fun c hc => .base ((a3 c).1 hc), fun c hc => (a3 c).2 hc, fun p q _ h => by omega⟩ (big_gt hn (by simp only []; omega))
  rintro self _ ⟨i, r, rfl, I⟩ ih
  have hr81 := nodup_len81 I.ss.nodup I.c
  simp only [s_l6Span_L2]
  by_cases hi : i < r.length
  · rw [br_pos (decide_eq_true (show (i : Int) < (r.length : Int) by omega))]
    refine fx_inv (B := s_l6Span_L1 n self) (fun s => ∃ (j k : Nat) (e : List Card), s = ((j : Int), (k : Int), e) ∧ SpI l j e ∧ k ≤ j ∧ j < e.length ∧ (∀ q, q < k → third (gl ⟨0, 0, 0, 0⟩ e j) (gl ⟨0, 0, 0, 0⟩ e q) ∈ e) ∧ (r.length < e.length ∨ r.length = e.length ∧ i ≤ j))
      (fun s => (81 - s.2.2.length) * 200 + (100 - s.2.1.toNat)) (fun o => ∃ r, o = some r ∧ SpanR l r) ?_ n _ ⟨i, 0, r, rfl, I, by omega, hi, fun q h => by omega, .inr ⟨rfl, Nat.le_refl _⟩⟩ (big_gt hn (by simp only []; omega))
    rintro self2 _ ⟨j, k, e, rfl, J, hkj, hj, hq, hlen2⟩ ih2
    have he81 := nodup_len81 J.ss.nodup J.c
    have HL := J.ss.handL J.c
    simp only [s_l6Span_L1, lt_eq]
    by_cases hk : k < j
    · rw [br_pos (decide_eq_true (show (k : Int) < (j : Int) by omega)), ckb_pos (inb_ok hj), ckb_pos (inb_ok (by omega)), toNat_cast, toNat_cast, s_l2Third_eq hn (gl_C J.c hj) (gl_C J.c (by omega)), ob_some, s_l2Has_eq hn (by omega), ob_some]
      have hct := third_isC (gl_C J.c hj) (gl_C J.c (show k < e.length by omega))
      cases hc : e.contains (third (gl ⟨0, 0, 0, 0⟩ e j) (gl ⟨0, 0, 0, 0⟩ e k)) with
      | true =>
        rw [Bool.not_true, br_false, w64_succ (by omega)]
        refine ih2 _ ⟨j, k + 1, e, rfl, J, by omega, hj, fun q h => ?_, hlen2⟩ (by simp only []; omega)
        by_cases hqk : q = k
        · subst hqk; exact List.contains_iff_mem.1 hc
        · exact hq q (by omega)
      | false =>
        have hnm : third (gl ⟨0, 0, 0, 0⟩ e j) (gl ⟨0, 0, 0, 0⟩ e k) ∉ e := fun h => by rw [List.contains_iff_mem.2 h] at hc; cases hc
        have hil := ins_new hnm
        rw [Bool.not_false, br_true, s_l2Put_eq hn J.c (by omega) hct, ob_some]
        have e0 : w64 (-1 + 1) = 0 := by decide
        rw [e0]
        have hnew81 := nodup_len81 (ins_ss hct J.c J.ss).nodup (ins_allC hct J.c)
        refine ih2 _ ⟨0, 0, _, rfl, ⟨ins_ss hct J.c J.ss, ins_allC hct J.c, by omega, fun c hc => ?_, fun c hc => ins_mem.2 (.inr (J.sup c hc)), fun p q _ h => by omega⟩, by omega, by omega, fun q h => by omega, .inl (by omega)⟩ (by simp only []; omega)
        rcases ins_mem.1 hc with rfl | hc
        · exact .th (J.sub _ (mem_gl.2 ⟨j, hj, rfl⟩)) (J.sub _ (mem_gl.2 ⟨k, by omega, rfl⟩))
        · exact J.sub c hc
    · have hkj' : k = j := by omega
      rw [br_neg (decide_eq_false (by omega)), w64_succ (by omega)]
      refine ih _ ⟨j + 1, e, rfl, ⟨J.ss, J.c, by omega, J.sub, J.sup, fun p q h1 h2 => ?_⟩⟩ (by simp only []; omega)
      by_cases hp : p = j
      · subst hp; exact hq q (by omega)
      · exact J.cl p q h1 (by omega)
  · have : i = r.length := by have := I.il; omega
    subst this
    rw [br_neg (decide_eq_false (by omega))]
    exact ⟨r, rfl, closed_span I.ss I.c I.sub I.sup I.cl⟩
end Go.Pl
namespace Go.Pl
open Go Go.Tv Go.RowKit
set_option linter.unusedVariables false
set_option linter.unusedSimpArgs false
def addN (out : List Card) (c : Card) : List Card := if out.contains c then out else out ++ [c]
structure SpJ (l out : List Card) (v : VL 81 Bool) : Prop where
  nd : out.Nodup
  c : AllC out
  inn : ∀ c, isC c = true → VL.get false v (num c).toNat = out.contains c
  sub : ∀ c ∈ out, InSp l c
theorem addN_mem {out : List Card} {c d : Card} : d ∈ addN out c ↔ d ∈ out ∨ d = c := by
  unfold addN
  split
  · rename_i h
    have := List.contains_iff_mem.1 h
    constructor
    · exact fun h => .inl h
    · rintro (h | rfl)
      · exact h
      · exact this
  · rw [List.mem_append, List.mem_singleton]
theorem addN_gl {out : List Card} {c : Card} {p : Nat} (hp : p < out.length) : gl (⟨0, 0, 0, 0⟩ : Card) (addN out c) p = gl ⟨0, 0, 0, 0⟩ out p := by
  unfold addN
  split
  · rfl
  · rw [gl_eq (by rw [List.length_append]; omega), gl_eq hp, List.getElem_append_left hp]
theorem addN_len (out : List Card) (c : Card) : out.length ≤ (addN out c).length := by
  unfold addN
  split
  · exact Nat.le_refl _
  · rw [List.length_append]; omega
theorem put_ok {n : Nat} (hn : BIG ≤ n) {l out : List Card} {v : VL 81 Bool} (hl : AllC l) (J : SpJ l out v) {c : Card} (hc : InSp l c) : ∃ v', i_span_1'pp_o n c v out = some (v', addN out c) ∧ SpJ l (addN out c) v' := by
  have kc := hc.isC hl
  have hb := num_bd kc
  have h81 := nodup_len81 J.nd J.c
  unfold i_span_1'pp_o
  rw [i_number_eq hn kc, ob_some, ckb_pos (inb_pos (by omega) (by omega)), J.inn c kc]
  unfold addN
  cases hcon : out.contains c with
  | true => exact ⟨v, rfl, J⟩
  | false =>
    have hnm : c ∉ out := fun h => by rw [List.contains_iff_mem.2 h] at hcon; cases hcon
    rw [Bool.not_false, br_true, ob_some, ckb_pos (inb_pos (by omega) (by omega)), lt_eq, ckb_pos (apok_ok (by omega) (by omega))]
    refine ⟨_, rfl, ⟨List.nodup_append.2 ⟨J.nd, List.pairwise_singleton _ _, fun a ha b hb => by rw [List.mem_singleton.1 hb]; exact fun e => hnm (e ▸ ha)⟩, fun d hd => ?_, fun d kd => ?_, fun d hd => ?_⟩⟩
    · rcases List.mem_append.1 hd with h | h
      · exact J.c d h
      · rw [List.mem_singleton.1 h]; exact kc
    · have hbd := num_bd kd
      rw [VL.get_set (n := 81) false v (by omega) true, J.inn d kd]
      by_cases e : d = c
      · subst e
        rw [if_pos rfl]
        exact (List.contains_iff_mem.2 (List.mem_append.2 (.inr (List.mem_singleton.2 rfl)))).symm
      · have : ¬ (num d).toNat = (num c).toNat := fun h => e (num_inj kd kc (by omega))
        rw [if_neg this, if_neg (show ¬ (false = true) by decide), Bool.eq_iff_iff, List.contains_iff_mem, List.contains_iff_mem, List.mem_append, List.mem_singleton]
        constructor
        · exact fun h => .inl h
        · rintro (h | h)
          · exact h
          · exact absurd h e
    · rcases List.mem_append.1 hd with h | h
      · exact J.sub d h
      · rw [List.mem_singleton.1 h]; exact hc
theorem closed_mem {l r : List Card} (hc : AllC r) (h2 : ∀ c ∈ l, c ∈ r) (h3 : ∀ p q, q < p → p < r.length → third (gl ⟨0, 0, 0, 0⟩ r q) (gl ⟨0, 0, 0, 0⟩ r p) ∈ r) {c : Card} (h : InSp l c) : c ∈ r := by
  induction h with
  | base h => exact h2 _ h
  | @th a b ha hb ia ib =>
    obtain ⟨p, hp, rfl⟩ := mem_gl.1 ia
    obtain ⟨q, hq, rfl⟩ := mem_gl.1 ib
    rcases Nat.lt_trichotomy q p with h | h | h
    · rw [th_comm]; exact h3 p q h hp
    · subst h; rw [th_self (gl_C hc hp)]; exact ia
    · exact h3 q p h hq
def SpQ (l : List Card) (o : Opt (List Card)) : Prop := ∃ r, o = some r ∧ SpanR l r
theorem i_span_L2_ok {n : Nat} (hn : BIG ≤ n) {l : List Card} (hl : AllC l) {out : List Card} {v : VL 81 Bool} (J : SpJ l out v) (hsup : ∀ c ∈ l, c ∈ out) : SpQ l (fx (i_span_L2 n) n (0, v, out)) := by
  refine fx_inv (B := i_span_L2 n) (fun s => ∃ (k : Nat) (v : VL 81 Bool) (out : List Card), s = ((k : Int), v, out) ∧ SpJ l out v ∧ (∀ c ∈ l, c ∈ out) ∧ k ≤ out.length ∧ (∀ p q, q < p → p < k → third (gl ⟨0, 0, 0, 0⟩ out q) (gl ⟨0, 0, 0, 0⟩ out p) ∈ out))
    (fun s => 100 - s.1.toNat) (SpQ l) ?_ n _ ⟨0, v, out, rfl, J, hsup, Nat.zero_le _, fun p q _ h => by omega⟩ (big_gt hn (by simp only []; omega))
  rintro self _ ⟨k, v, out, rfl, J, hsup, hk, hcl⟩ ih
  have h81 := nodup_len81 J.nd J.c
  simp only [i_span_L2]
  by_cases h1 : k < out.length
  · rw [br_pos (decide_eq_true (show (k : Int) < (out.length : Int) by omega))]
    refine fx_inv (B := i_span_L1 n self) (fun s => ∃ (i : Nat) (v : VL 81 Bool) (out : List Card), s = ((k : Int), (k : Int), (i : Int), v, out) ∧ SpJ l out v ∧ (∀ c ∈ l, c ∈ out) ∧ k < out.length ∧ i ≤ k ∧ (∀ p q, q < p → p < k → third (gl ⟨0, 0, 0, 0⟩ out q) (gl ⟨0, 0, 0, 0⟩ out p) ∈ out) ∧ (∀ q, q < i → third (gl ⟨0, 0, 0, 0⟩ out q) (gl ⟨0, 0, 0, 0⟩ out k) ∈ out))
      (fun s => 100 - s.2.2.1.toNat) (SpQ l) ?_ n _ ⟨0, v, out, rfl, J, hsup, h1, Nat.zero_le _, hcl, fun q h => by omega⟩ (big_gt hn (by simp only []; omega))
    rintro self2 _ ⟨i, v, out, rfl, J, hsup, hk, hik, hcl, hin⟩ ih2
    have h81 := nodup_len81 J.nd J.c
    simp only [i_span_L1]
    by_cases h2 : i < k
    · have hi : i < out.length := by omega
      have sp : InSp l (third (gl ⟨0, 0, 0, 0⟩ out i) (gl ⟨0, 0, 0, 0⟩ out k)) := .th (J.sub _ (mem_gl.2 ⟨i, hi, rfl⟩)) (J.sub _ (mem_gl.2 ⟨k, hk, rfl⟩))
      obtain ⟨v', e, J'⟩ := put_ok hn hl J sp
      rw [br_pos (decide_eq_true (show (i : Int) < (k : Int) by omega)), ckb_pos (inb_ok hi), ckb_pos (inb_ok hk), toNat_cast, toNat_cast, i_third_eq hn (gl_C J.c hi) (gl_C J.c hk), ob_some, e, ob_some, lt_eq, w64_succ (by omega)]
      have hle := addN_len out (third (gl ⟨0, 0, 0, 0⟩ out i) (gl ⟨0, 0, 0, 0⟩ out k))
      refine ih2 _ ⟨i + 1, v', addN out (third (gl ⟨0, 0, 0, 0⟩ out i) (gl ⟨0, 0, 0, 0⟩ out k)), rfl, J', fun c hc => addN_mem.2 (.inl (hsup c hc)), by omega, by omega, fun p q h3 h4 => ?_, fun q h3 => ?_⟩ (by simp only []; omega)
      · rw [addN_gl (by omega), addN_gl (by omega)]
        exact addN_mem.2 (.inl (hcl p q h3 h4))
      · rw [addN_gl (by omega), addN_gl (by omega)]
        by_cases e : q = i
        · subst e; exact addN_mem.2 (.inr rfl)
        · exact addN_mem.2 (.inl (hin q (by omega)))
    · have : i = k := by omega
      subst this
      rw [br_neg (decide_eq_false (by omega)), lt_eq, w64_succ (by omega)]
      refine ih _ ⟨i + 1, v, out, rfl, J, hsup, by omega, fun p q h3 h4 => ?_⟩ (by simp only []; omega)
      by_cases e : p = i
      · subst e; exact hin q h3
      · exact hcl p q h3 (by omega)
  · have : k = out.length := by omega
    subst this
    obtain ⟨a1, a2, a3, a4⟩ := sortd_ok J.c
    rw [br_neg (decide_eq_false (by omega)), i_sorted_eq hn J.c (by omega), ob_some]
    exact ⟨_, rfl, a2, a1, fun c => by
      rw [a3]
      exact ⟨fun h => J.sub c h, fun h => closed_mem J.c hsup hcl h⟩⟩
theorem i_span_ok {n : Nat} (hn : BIG ≤ n) {l : List Card} (hl : AllC l) (hlen : l.length ≤ 1000000) : SpQ l (i_span n l) := by
  unfold i_span
  rw [lt_eq]
  refine fx_inv (B := i_span_L3 n) (fun s => ∃ (i : Nat) (v : VL 81 Bool) (out : List Card), s = (l, (l.length : Int), (i : Int), v, out) ∧ SpJ l out v ∧ i ≤ l.length ∧ (∀ q, (h : q < l.length) → q < i → l[q] ∈ out))
    (fun s => l.length - s.2.2.1.toNat) (SpQ l) ?_ n _ ⟨0, VL.rep 81 false, [], rfl, ⟨List.Pairwise.nil, fun c h => (by cases h), fun c kc => ?_, fun c h => (by cases h)⟩, Nat.zero_le _, fun q _ h => by omega⟩ (big_gt hn (by simp only []; omega))
  · rintro self _ ⟨i, v, out, rfl, J, hi, hsup⟩ ih
    simp only [i_span_L3]
    by_cases h1 : i < l.length
    · have sp : InSp l (gl ⟨0, 0, 0, 0⟩ l i) := .base (mem_gl.2 ⟨i, h1, rfl⟩)
      obtain ⟨v', e, J'⟩ := put_ok hn hl J sp
      rw [br_pos (decide_eq_true (show (i : Int) < (l.length : Int) by omega)), ckb_pos (inb_ok h1), toNat_cast, e, ob_some, lt_eq, w64_succ (by omega)]
      refine ih _ ⟨i + 1, v', _, rfl, J', by omega, fun q hq h => ?_⟩ (by simp only []; omega)
      by_cases e : q = i
      · subst e; rw [addN_mem]; right; rw [gl_eq hq]
      · exact addN_mem.2 (.inl (hsup q hq (by omega)))
    · have : i = l.length := by omega
      subst this
      rw [br_neg (decide_eq_false (by omega))]
      exact i_span_L2_ok hn hl J fun c hc => by
        obtain ⟨q, hq, rfl⟩ := List.getElem_of_mem hc
        exact hsup q hq hq
  · have hbd := num_bd kc
    rw [VL.get_rep]; rfl
theorem span_eq {n : Nat} (hn : BIG ≤ n) {l : List Card} (hl : AllC l) (hlen : l.length ≤ 1000000) : ∃ r, i_span n l = some r ∧ s_l6Span n l = some r ∧ SpanR l r := by
  obtain ⟨r, e1, h1⟩ := i_span_ok hn hl hlen
  obtain ⟨r', e2, h2⟩ := s_l6Span_ok hn hl hlen
  have := h1.uniq h2
  subst this
  exact ⟨r, e1, e2, h1⟩
end Go.Pl

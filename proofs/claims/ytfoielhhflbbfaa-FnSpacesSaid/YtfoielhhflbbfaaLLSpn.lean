/- Plain laws: LSpn. -/
import Derived.Test.YtfoielhhflbbfaaLLSo6
import Derived.Test.YtfoielhhflbbfaaLLTh
import Derived.Test.YtfoielhhflbbfaaLL81
set_option linter.unusedVariables false
set_option linter.unusedSimpArgs false
namespace Go.Pl
open Go Go.Tv Go.RowKit
set_option linter.unusedVariables false
theorem len_sub' {α : Type} [DecidableEq α] : ∀ {M L : List α}, M.Nodup → (∀ x ∈ M, x ∈ L) → M.length ≤ L.length
  | [], _, _, _ => Nat.zero_le _
  | a :: M, L, h, hs => by
    obtain ⟨h1, h2⟩ := List.nodup_cons.1 h
    have ha := hs a List.mem_cons_self
    have := len_sub' (M := M) (L := L.erase a) h2 fun x hx => (List.mem_erase_of_ne (fun e => h1 (by rw [← e]; exact hx))).2 (hs x (List.mem_cons_of_mem _ hx))
    rw [List.length_erase_of_mem ha] at this
    have := List.length_pos_of_mem ha
    rw [List.length_cons]; omega
theorem SS.nodup {l : List Card} (h : SS l) : l.Nodup := List.Pairwise.imp (fun hab heq => by rw [heq] at hab; exact absurd hab (Int.lt_irrefl _)) h
theorem nodup_len81 {l : List Card} (h : l.Nodup) (hc : AllC l) : l.length ≤ 81 := by
  have := len_sub' (L := cards81) h fun x hx => mem_cards81 (hc x hx)
  have e : cards81.length = 81 := by unfold cards81; simp
  omega
theorem SS.handL {l : List Card} (h : SS l) (hc : AllC l) : HandL l := ⟨hc, h.nodup, by have := nodup_len81 h.nodup hc; omega⟩
inductive InSp (l : List Card) : Card → Prop
  | base {c : Card} (h : c ∈ l) : InSp l c
  | th {a b : Card} (ha : InSp l a) (hb : InSp l b) : InSp l (third a b)
theorem InSp.isC {l : List Card} (hl : AllC l) {c : Card} (h : InSp l c) : isC c = true := by
  induction h with
  | base h => exact hl _ h
  | th _ _ ha hb => exact third_isC ha hb
structure SpanR (l r : List Card) : Prop where
  ss : SS r
  c : AllC r
  mem : ∀ c, c ∈ r ↔ InSp l c
theorem SpanR.uniq {l r r' : List Card} (h : SpanR l r) (h' : SpanR l r') : r = r' := ss_uniq h.ss h'.ss fun c => by rw [h.mem, h'.mem]
theorem SpanR.closed {l r : List Card} (h : SpanR l r) {a b : Card} (ha : a ∈ r) (hb : b ∈ r) : third a b ∈ r := (h.mem _).2 (.th ((h.mem a).1 ha) ((h.mem b).1 hb))
theorem closed_span {l r : List Card} (hs : SS r) (hc : AllC r) (h1 : ∀ c ∈ r, InSp l c) (h2 : ∀ c ∈ l, c ∈ r) (h3 : ∀ p q, q < p → p < r.length → third (gl ⟨0, 0, 0, 0⟩ r p) (gl ⟨0, 0, 0, 0⟩ r q) ∈ r) : SpanR l r := by
  refine ⟨hs, hc, fun c => ⟨h1 c, fun h => ?_⟩⟩
  induction h with
  | base h => exact h2 _ h
  | @th a b ha hb ia ib =>
    obtain ⟨p, hp, rfl⟩ := mem_gl.1 ia
    obtain ⟨q, hq, rfl⟩ := mem_gl.1 ib
    rcases Nat.lt_trichotomy q p with h | h | h
    · exact h3 p q h hp
    · subst h; rw [th_self (gl_C hc hp)]; exact ia
    · rw [th_comm]; exact h3 q p h hq
structure SpI (l : List Card) (i : Nat) (r : List Card) : Prop where
  ss : SS r
  c : AllC r
  il : i ≤ r.length
  sub : ∀ c ∈ r, InSp l c
  sup : ∀ c ∈ l, c ∈ r
  cl : ∀ p q, q < p → p < i → third (gl ⟨0, 0, 0, 0⟩ r p) (gl ⟨0, 0, 0, 0⟩ r q) ∈ r
theorem ins_new {c : Card} : ∀ {l : List Card}, c ∉ l → (ins c l).length = l.length + 1
  | [], _ => rfl
  | x :: l, h => by
    have h1 : ¬ x = c := fun e => h (e ▸ List.mem_cons_self)
    have h2 : c ∉ l := fun e => h (List.mem_cons_of_mem _ e)
    unfold ins
    split
    · rw [List.length_cons, ins_new h2, List.length_cons]
    · rfl
theorem s_l6Span_ok {n : Nat} (hn : BIG ≤ n) {l : List Card} (hl : AllC l) (hlen : l.length ≤ 1000000) : ∃ r, s_l6Span n l = some r ∧ SpanR l r := by
  unfold s_l6Span
  obtain ⟨a1, a2, a3, a4⟩ := sortd_ok hl
  rw [s_l2Sorted_eq hn hl hlen, ob_some]
  refine fx_inv (B := s_l6Span_L2 n) (fun s => ∃ (i : Nat) (r : List Card), s = ((i : Int), r) ∧ SpI l i r) (fun s => (81 - s.2.length) * 200 + (100 - s.1.toNat)) (fun o => ∃ r, o = some r ∧ SpanR l r) ?_ n _
    ⟨0, sortd l, rfl, a2, a1, by omega, fun c hc => .base ((a3 c).1 hc), fun c hc => (a3 c).2 hc, fun p q _ h => by omega⟩ (big_gt hn (by simp only []; omega))
  rintro self _ ⟨i, r, rfl, I⟩ ih
  have hr81 := nodup_len81 I.ss.nodup I.c
  simp only [s_l6Span_L2]
  by_cases hi : i < r.length
  · rw [br_pos (decide_eq_true (show (i : Int) < (r.length : Int) by omega))]
    refine fx_inv (B := s_l6Span_L1 n self) (fun s => ∃ (j k : Nat) (e : List Card), s = ((j : Int), (k : Int), e) ∧ SpI l j e ∧ k ≤ j ∧ j < e.length ∧ (∀ q, q < k → third (gl ⟨0, 0, 0, 0⟩ e j) (gl ⟨0, 0, 0, 0⟩ e q) ∈ e) ∧ (r.length < e.length ∨ r.length = e.length ∧ i ≤ j))
      (fun s => (81 - s.2.2.length) * 200 + (100 - s.2.1.toNat)) (fun o => ∃ r, o = some r ∧ SpanR l r) ?_ n _ ⟨i, 0, r, rfl, I, by omega, hi, fun q h => by omega, .inr ⟨rfl, Nat.le_refl _⟩⟩ (big_gt hn (by simp only []; omega))
    rintro self2 _ ⟨j, k, e, rfl, J, hkj, hj, hq, hlen2⟩ ih2
    have he81 := nodup_len81 J.ss.nodup J.c
    have HL := J.ss.handL J.c
    simp only [s_l6Span_L1, lt_eq]
    by_cases hk : k < j
    · rw [br_pos (decide_eq_true (show (k : Int) < (j : Int) by omega)), ckb_pos (inb_ok hj), ckb_pos (inb_ok (by omega)), toNat_cast, toNat_cast, s_l2Third_eq hn (gl_C J.c hj) (gl_C J.c (by omega)), ob_some, s_l2Has_eq hn (by omega), ob_some]
      have hct := third_isC (gl_C J.c hj) (gl_C J.c (show k < e.length by omega))
      cases hc : e.contains (third (gl ⟨0, 0, 0, 0⟩ e j) (gl ⟨0, 0, 0, 0⟩ e k)) with
      | true =>
        rw [Bool.not_true, br_false, w64_succ (by omega)]
        refine ih2 _ ⟨j, k + 1, e, rfl, J, by omega, hj, fun q h => ?_, hlen2⟩ (by simp only []; omega)
        by_cases hqk : q = k
        · subst hqk; exact List.contains_iff_mem.1 hc
        · exact hq q (by omega)
      | false =>
        have hnm : third (gl ⟨0, 0, 0, 0⟩ e j) (gl ⟨0, 0, 0, 0⟩ e k) ∉ e := fun h => by rw [List.contains_iff_mem.2 h] at hc; cases hc
        have hil := ins_new hnm
        rw [Bool.not_false, br_true, s_l2Put_eq hn J.c (by omega) hct, ob_some]
        have e0 : w64 (-1 + 1) = 0 := by decide
        rw [e0]
        have hnew81 := nodup_len81 (ins_ss hct J.c J.ss).nodup (ins_allC hct J.c)
        refine ih2 _ ⟨0, 0, _, rfl, ⟨ins_ss hct J.c J.ss, ins_allC hct J.c, by omega, fun c hc => ?_, fun c hc => ins_mem.2 (.inr (J.sup c hc)), fun p q _ h => by omega⟩, by omega, by omega, fun q h => by omega, .inl (by omega)⟩ (by simp only []; omega)
        rcases ins_mem.1 hc with rfl | hc
        · exact .th (J.sub _ (mem_gl.2 ⟨j, hj, rfl⟩)) (J.sub _ (mem_gl.2 ⟨k, by omega, rfl⟩))
        · exact J.sub c hc
    · have hkj' : k = j := by omega
      rw [br_neg (decide_eq_false (by omega)), w64_succ (by omega)]
      refine ih _ ⟨j + 1, e, rfl, ⟨J.ss, J.c, by omega, J.sub, J.sup, fun p q h1 h2 => ?_⟩⟩ (by simp only []; omega)
      by_cases hp : p = j
      · subst hp; exact hq q (by omega)
      · exact J.cl p q h1 (by omega)
  · have : i = r.length := by have := I.il; omega
    subst this
    rw [br_neg (decide_eq_false (by omega))]
    exact ⟨r, rfl, closed_span I.ss I.c I.sub I.sup I.cl⟩
end Go.Pl

/- Plain laws: LSpi. -/
import Derived.Test.YtfoielhhflbbfaaLLSpn
import Derived.Test.YtfoielhhflbbfaaPL
set_option linter.unusedVariables false
set_option linter.unusedSimpArgs false
namespace Go.Pl
open Go Go.Tv Go.RowKit
set_option linter.unusedVariables false
set_option linter.unusedSimpArgs false
def addN (out : List Card) (c : Card) : List Card := if out.contains c then out else out ++ [c]
structure SpJ (l out : List Card) (v : VL 81 Bool) : Prop where
  nd : out.Nodup
  c : AllC out
  inn : ∀ c, isC c = true → VL.get false v (num c).toNat = out.contains c
  sub : ∀ c ∈ out, InSp l c
theorem addN_mem {out : List Card} {c d : Card} : d ∈ addN out c ↔ d ∈ out ∨ d = c := by
  unfold addN
  split
  · rename_i h
    have := List.contains_iff_mem.1 h
    constructor
    · exact fun h => .inl h
    · rintro (h | rfl)
      · exact h
      · exact this
  · rw [List.mem_append, List.mem_singleton]
theorem addN_gl {out : List Card} {c : Card} {p : Nat} (hp : p < out.length) : gl (⟨0, 0, 0, 0⟩ : Card) (addN out c) p = gl ⟨0, 0, 0, 0⟩ out p := by
  unfold addN
  split
  · rfl
  · rw [gl_eq (by rw [List.length_append]; omega), gl_eq hp, List.getElem_append_left hp]
theorem addN_len (out : List Card) (c : Card) : out.length ≤ (addN out c).length := by
  unfold addN
  split
  · exact Nat.le_refl _
  · rw [List.length_append]; omega
theorem put_ok {n : Nat} (hn : BIG ≤ n) {l out : List Card} {v : VL 81 Bool} (hl : AllC l) (J : SpJ l out v) {c : Card} (hc : InSp l c) : ∃ v', i_span_1'pp_o n c v out = some (v', addN out c) ∧ SpJ l (addN out c) v' := by
  have kc := hc.isC hl
  have hb := num_bd kc
  have h81 := nodup_len81 J.nd J.c
  unfold i_span_1'pp_o
  rw [i_number_eq hn kc, ob_some, ckb_pos (inb_pos (by omega) (by omega)), J.inn c kc]
  unfold addN
  cases hcon : out.contains c with
  | true => exact ⟨v, rfl, J⟩
  | false =>
    have hnm : c ∉ out := fun h => by rw [List.contains_iff_mem.2 h] at hcon; cases hcon
    rw [Bool.not_false, br_true, ob_some, ckb_pos (inb_pos (by omega) (by omega)), lt_eq, ckb_pos (apok_ok (by omega) (by omega))]
    refine ⟨_, rfl, ⟨List.nodup_append.2 ⟨J.nd, List.pairwise_singleton _ _, fun a ha b hb => by rw [List.mem_singleton.1 hb]; exact fun e => hnm (e ▸ ha)⟩, fun d hd => ?_, fun d kd => ?_, fun d hd => ?_⟩⟩
    · rcases List.mem_append.1 hd with h | h
      · exact J.c d h
      · rw [List.mem_singleton.1 h]; exact kc
    · have hbd := num_bd kd
      rw [VL.get_set (n := 81) false v (by omega) true, J.inn d kd]
      by_cases e : d = c
      · subst e
        rw [if_pos rfl]
        exact (List.contains_iff_mem.2 (List.mem_append.2 (.inr (List.mem_singleton.2 rfl)))).symm
      · have : ¬ (num d).toNat = (num c).toNat := fun h => e (num_inj kd kc (by omega))
        rw [if_neg this, if_neg (show ¬ (false = true) by decide), Bool.eq_iff_iff, List.contains_iff_mem, List.contains_iff_mem, List.mem_append, List.mem_singleton]
        constructor
        · exact fun h => .inl h
        · rintro (h | h)
          · exact h
          · exact absurd h e
    · rcases List.mem_append.1 hd with h | h
      · exact J.sub d h
      · rw [List.mem_singleton.1 h]; exact hc
theorem closed_mem {l r : List Card} (hc : AllC r) (h2 : ∀ c ∈ l, c ∈ r) (h3 : ∀ p q, q < p → p < r.length → third (gl ⟨0, 0, 0, 0⟩ r q) (gl ⟨0, 0, 0, 0⟩ r p) ∈ r) {c : Card} (h : InSp l c) : c ∈ r := by
  induction h with
  | base h => exact h2 _ h
  | @th a b ha hb ia ib =>
    obtain ⟨p, hp, rfl⟩ := mem_gl.1 ia
    obtain ⟨q, hq, rfl⟩ := mem_gl.1 ib
    rcases Nat.lt_trichotomy q p with h | h | h
    · rw [th_comm]; exact h3 p q h hp
    · subst h; rw [th_self (gl_C hc hp)]; exact ia
    · exact h3 q p h hq
def SpQ (l : List Card) (o : Opt (List Card)) : Prop := ∃ r, o = some r ∧ SpanR l r
theorem i_span_L2_ok {n : Nat} (hn : BIG ≤ n) {l : List Card} (hl : AllC l) {out : List Card} {v : VL 81 Bool} (J : SpJ l out v) (hsup : ∀ c ∈ l, c ∈ out) : SpQ l (fx (i_span_L2 n) n (0, v, out)) := by
  refine fx_inv (B := i_span_L2 n) (fun s => ∃ (k : Nat) (v : VL 81 Bool) (out : List Card), s = ((k : Int), v, out) ∧ SpJ l out v ∧ (∀ c ∈ l, c ∈ out) ∧ k ≤ out.length ∧ (∀ p q, q < p → p < k → third (gl ⟨0, 0, 0, 0⟩ out q) (gl ⟨0, 0, 0, 0⟩ out p) ∈ out))
    (fun s => 100 - s.1.toNat) (SpQ l) ?_ n _ ⟨0, v, out, rfl, J, hsup, Nat.zero_le _, fun p q _ h => by omega⟩ (big_gt hn (by simp only []; omega))
  rintro self _ ⟨k, v, out, rfl, J, hsup, hk, hcl⟩ ih
  have h81 := nodup_len81 J.nd J.c
  simp only [i_span_L2]
  by_cases h1 : k < out.length
  · rw [br_pos (decide_eq_true (show (k : Int) < (out.length : Int) by omega))]
    refine fx_inv (B := i_span_L1 n self) (fun s => ∃ (i : Nat) (v : VL 81 Bool) (out : List Card), s = ((k : Int), (k : Int), (i : Int), v, out) ∧ SpJ l out v ∧ (∀ c ∈ l, c ∈ out) ∧ k < out.length ∧ i ≤ k ∧ (∀ p q, q < p → p < k → third (gl ⟨0, 0, 0, 0⟩ out q) (gl ⟨0, 0, 0, 0⟩ out p) ∈ out) ∧ (∀ q, q < i → third (gl ⟨0, 0, 0, 0⟩ out q) (gl ⟨0, 0, 0, 0⟩ out k) ∈ out))
      (fun s => 100 - s.2.2.1.toNat) (SpQ l) ?_ n _ ⟨0, v, out, rfl, J, hsup, h1, Nat.zero_le _, hcl, fun q h => by omega⟩ (big_gt hn (by simp only []; omega))
    rintro self2 _ ⟨i, v, out, rfl, J, hsup, hk, hik, hcl, hin⟩ ih2
    have h81 := nodup_len81 J.nd J.c
    simp only [i_span_L1]
    by_cases h2 : i < k
    · have hi : i < out.length := by omega
      have sp : InSp l (third (gl ⟨0, 0, 0, 0⟩ out i) (gl ⟨0, 0, 0, 0⟩ out k)) := .th (J.sub _ (mem_gl.2 ⟨i, hi, rfl⟩)) (J.sub _ (mem_gl.2 ⟨k, hk, rfl⟩))
      obtain ⟨v', e, J'⟩ := put_ok hn hl J sp
      rw [br_pos (decide_eq_true (show (i : Int) < (k : Int) by omega)), ckb_pos (inb_ok hi), ckb_pos (inb_ok hk), toNat_cast, toNat_cast, i_third_eq hn (gl_C J.c hi) (gl_C J.c hk), ob_some, e, ob_some, lt_eq, w64_succ (by omega)]
      have hle := addN_len out (third (gl ⟨0, 0, 0, 0⟩ out i) (gl ⟨0, 0, 0, 0⟩ out k))
      refine ih2 _ ⟨i + 1, v', addN out (third (gl ⟨0, 0, 0, 0⟩ out i) (gl ⟨0, 0, 0, 0⟩ out k)), rfl, J', fun c hc => addN_mem.2 (.inl (hsup c hc)), by omega, by omega, fun p q h3 h4 => ?_, fun q h3 => ?_⟩ (by simp only []; omega)
      · rw [addN_gl (by omega), addN_gl (by omega)]
        exact addN_mem.2 (.inl (hcl p q h3 h4))
      · rw [addN_gl (by omega), addN_gl (by omega)]
        by_cases e : q = i
        · subst e; exact addN_mem.2 (.inr rfl)
        · exact addN_mem.2 (.inl (hin q (by omega)))
    · have : i = k := by omega
      subst this
      rw [br_neg (decide_eq_false (by omega)), lt_eq, w64_succ (by omega)]
      refine ih _ ⟨i + 1, v, out, rfl, J, hsup, by omega, fun p q h3 h4 => ?_⟩ (by simp only []; omega)
      by_cases e : p = i
      · subst e; exact hin q h3
      · exact hcl p q h3 (by omega)
  · have : k = out.length := by omega
    subst this
    obtain ⟨a1, a2, a3, a4⟩ := sortd_ok J.c
    rw [br_neg (decide_eq_false (by omega)), i_sorted_eq hn J.c (by omega), ob_some]
    exact ⟨_, rfl, a2, a1, fun c => by
      rw [a3]
      exact ⟨fun h => J.sub c h, fun h => closed_mem J.c hsup hcl h⟩⟩
theorem i_span_ok {n : Nat} (hn : BIG ≤ n) {l : List Card} (hl : AllC l) (hlen : l.length ≤ 1000000) : SpQ l (i_span n l) := by
  unfold i_span
  rw [lt_eq]
  refine fx_inv (B := i_span_L3 n) (fun s => ∃ (i : Nat) (v : VL 81 Bool) (out : List Card), s = (l, (l.length : Int), (i : Int), v, out) ∧ SpJ l out v ∧ i ≤ l.length ∧ (∀ q, (h : q < l.length) → q < i → l[q] ∈ out))
    (fun s => l.length - s.2.2.1.toNat) (SpQ l) ?_ n _ ⟨0, VL.rep 81 false, [], rfl, ⟨List.Pairwise.nil, fun c h => (by cases h), fun c kc => ?_, fun c h => (by cases h)⟩, Nat.zero_le _, fun q _ h => by omega⟩ (big_gt hn (by simp only []; omega))
  · rintro self _ ⟨i, v, out, rfl, J, hi, hsup⟩ ih
    simp only [i_span_L3]
    by_cases h1 : i < l.length
    · have sp : InSp l (gl ⟨0, 0, 0, 0⟩ l i) := .base (mem_gl.2 ⟨i, h1, rfl⟩)
      obtain ⟨v', e, J'⟩ := put_ok hn hl J sp
      rw [br_pos (decide_eq_true (show (i : Int) < (l.length : Int) by omega)), ckb_pos (inb_ok h1), toNat_cast, e, ob_some, lt_eq, w64_succ (by omega)]
      refine ih _ ⟨i + 1, v', _, rfl, J', by omega, fun q hq h => ?_⟩ (by simp only []; omega)
      by_cases e : q = i
      · subst e; rw [addN_mem]; right; rw [gl_eq hq]
      · exact addN_mem.2 (.inl (hsup q hq (by omega)))
    · have : i = l.length := by omega
      subst this
      rw [br_neg (decide_eq_false (by omega))]
      exact i_span_L2_ok hn hl J fun c hc => by
        obtain ⟨q, hq, rfl⟩ := List.getElem_of_mem hc
        exact hsup q hq hq
  · have hbd := num_bd kc
    rw [VL.get_rep]; rfl
theorem span_eq {n : Nat} (hn : BIG ≤ n) {l : List Card} (hl : AllC l) (hlen : l.length ≤ 1000000) : ∃ r, i_span n l = some r ∧ s_l6Span n l = some r ∧ SpanR l r := by
  obtain ⟨r, e1, h1⟩ := i_span_ok hn hl hlen
  obtain ⟨r', e2, h2⟩ := s_l6Span_ok hn hl hlen
  have := h1.uniq h2
  subst this
  exact ⟨r, e1, e2, h1⟩
end Go.Pl

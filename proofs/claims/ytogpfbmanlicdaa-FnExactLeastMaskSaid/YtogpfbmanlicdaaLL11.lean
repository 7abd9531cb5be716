/- Plain laws: L11. -/
import Derived.Test.YtogpfbmanlicdaaLL4
set_option linter.unusedVariables false
set_option linter.unusedSimpArgs false
namespace Go.Pl
open Go Go.Tv Go.RowKit

/-! shadows -/
def keepB (m : Int) (i : Int) : Bool := decide (bits .and .i64 (shrI .i64 m i) 1 = 0)
def sh (m i x : Int) : Int := if keepB m i = true then 0 else x
def shadow (m : Int) (c : Card) : Card := ⟨sh m 0 c.x0, sh m 1 c.x1, sh m 2 c.x2, sh m 3 c.x3⟩
theorem sh_in {m i x : Int} (h : 0 ≤ x ∧ x ≤ 2) : 0 ≤ sh m i x ∧ sh m i x ≤ 2 := by
  unfold sh; split <;> omega
theorem shadow_isC {m : Int} {c : Card} (h : isC c = true) : isC (shadow m c) = true := by
  rw [isC_iff] at h ⊢
  exact ⟨sh_in h.1, sh_in h.2.1, sh_in h.2.2.1, sh_in h.2.2.2⟩
theorem s_l11Shadow_eq {n : Nat} (hn : BIG ≤ n) (c : Card) (m : Int) : s_l11Shadow n c m = some (shadow m c) := by
  obtain ⟨k, rfl⟩ : ∃ k, n = k + 5 := ⟨n - 5, by unfold BIG at hn; omega⟩
  obtain ⟨c0, c1, c2, c3⟩ := c
  unfold s_l11Shadow shadow sh
  have e : ∀ i, decide (bits .and .i64 (shrI .i64 m i) 1 = 0) = keepB m i := fun _ => rfl
  simp only [lt_eq, fx_succ, s_l11Shadow_L1, e]
  cases h0 : keepB m 0 <;> cases h1 : keepB m 1 <;> cases h2 : keepB m 2 <;> cases h3 : keepB m 3 <;> simp [inb, nneg, V4.set, h0, h1, h2, h3]
theorem i_shadow_eq {n : Nat} (hn : BIG ≤ n) (c : Card) (m : Int) : i_shadow n c m = some (shadow m c) := by
  rw [← s_l11Shadow_eq hn c m]; rfl
def maskB (m : Int) : Bool := decide (1 ≤ m ∧ m ≤ 15)
theorem s_l11Mask_eq (n : Nat) (m : Int) : s_l11Mask n m = some (maskB m) := by unfold s_l11Mask; rw [s_l1In_eq]; rfl
theorem i_IsMask_eq (n : Nat) (m : Int) : i_IsMask n m = some (maskB m) := by unfold i_IsMask; rw [i_within_eq]; rfl

theorem flatMap_range {α β : Type} (f : α → β) : ∀ (l : List α) (s : Nat), (List.range' s l.length).flatMap (fun i => match l[i - s]? with | some x => [f x] | none => []) = l.map f
  | [], s => rfl
  | x :: l, s => by
    rw [List.length_cons, List.range'_succ, List.flatMap_cons]
    have ih := flatMap_range f l (s + 1)
    have : (List.range' (s + 1) l.length).flatMap (fun i => match (x :: l)[i - s]? with | some x => [f x] | none => []) = (List.range' (s + 1) l.length).flatMap (fun i => match l[i - (s + 1)]? with | some x => [f x] | none => []) := by
      refine flatMap_congr' fun i hi => ?_
      rw [List.mem_range'_1] at hi
      rw [show i - s = (i - (s + 1)) + 1 by omega, List.getElem?_cons_succ]
    rw [this, ih]; simp

/-- a loop that maps a list: out := out ++ [f x] for each x -/
theorem fx_map {σ ρ α β : Type} {B : (σ → Opt ρ) → σ → Opt ρ} (l : List α) (st : Nat → List β → σ) (f : α → β) (fin : List β → Opt ρ)
    (step : ∀ self i a (h : i < l.length), a.length + 1 ≤ l.length → B self (st i a) = self (st (i + 1) (a ++ [f l[i]]))) (stop : ∀ self a, B self (st l.length a) = fin a) (k : Nat) (hk : l.length < k) :
    fx B k (st 0 []) = fin (l.map f) := by
  have e := flatMap_range f l 0
  have := fx_app (B := B) l.length st (fun i => match l[i - 0]? with | some x => [f x] | none => []) fin l.length (fun self i a h hM => by
    simp only [Nat.sub_zero, List.getElem?_eq_getElem h] at hM ⊢
    exact step self i a h (by simpa using hM)) stop k 0 [] (Nat.zero_le _) (by omega) (by rw [Nat.sub_zero, e]; simp)
  rw [this, Nat.sub_zero, e]; simp

theorem s_l11All_eq {n : Nat} (hn : BIG ≤ n) {h : List Card} (hl : h.length ≤ 1048576) (m : Int) : s_l11All n h m = some (h.map (shadow m)) := by
  unfold s_l11All
  refine fx_map (B := s_l11All_L1 n) h (fun i a => (h, m, (i : Int), a)) (shadow m) some (fun self i a hi ha => ?_) (fun self a => ?_) n (big_gt hn (by omega))
  · have e1 : decide ((i : Int) < (h.length : Int)) = true := decide_eq_true (by omega)
    simp only [s_l11All_L1, e1, br_true, inb_ok hi, ckb_true, toNat_cast, gl_eq hi, s_l11Shadow_eq hn, ob_some, lt_eq]
    rw [apok_ok (by omega) (by omega), w64_succ (by omega)]; rfl
  · have e1 : decide ((h.length : Int) < (h.length : Int)) = false := decide_eq_false (by omega)
    simp only [s_l11All_L1, e1, br_false]
theorem i_shadows_eq {n : Nat} (hn : BIG ≤ n) {h : List Card} (hl : h.length ≤ 1048576) (m : Int) : i_shadows n h m = some (h.map (shadow m)) := by
  unfold i_shadows
  refine fx_map (B := i_shadows_L1 n) h (fun i a => (m, h, (h.length : Int), (i : Int), a)) (shadow m) some (fun self i a hi ha => ?_) (fun self a => ?_) n (big_gt hn (by omega))
  · have e1 : decide ((i : Int) < (h.length : Int)) = true := decide_eq_true (by omega)
    simp only [i_shadows_L1, e1, br_true, inb_ok hi, ckb_true, toNat_cast, gl_eq hi, i_shadow_eq hn, ob_some, lt_eq]
    rw [apok_ok (by omega) (by omega), w64_succ (by omega)]; rfl
  · have e1 : decide ((h.length : Int) < (h.length : Int)) = false := decide_eq_false (by omega)
    simp only [i_shadows_L1, e1, br_false]
end Go.Pl

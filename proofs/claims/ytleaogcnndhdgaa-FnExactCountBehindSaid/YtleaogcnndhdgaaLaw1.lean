/- A part of the proof that a law of the seat holds: ZLaw1. -/
import Derived.Test.YtleaogcnndhdgaaAv23
namespace Go.Av
open Go Go.RowKit

/-! ### the plain words, computed -/
theorem w64_id {x : Int} (h : -9223372036854775808 ≤ x ∧ x ≤ 9223372036854775807) : w64 x = x := by
  unfold w64
  simp only [IntKind.wrap, IntKind.bits, IntKind.signed]
  simp
  omega

@[simp] theorem lt_eq {α β : Type} (a : α) (k : α → Option β) : lt a k = k a := rfl
@[simp] theorem ob_some {α β : Type} (a : α) (k : α → Option β) : ob (some a) k = k a := rfl
@[simp] theorem br_true {β : Type} (x y : Option β) : br true x y = x := rfl
@[simp] theorem br_false {β : Type} (x y : Option β) : br false x y = y := rfl
theorem ck_pos {β : Type} {c : Prop} [Decidable c] {k : Option β} (h : c) : ck c k = k := if_pos h
theorem br_some {α β : Type} (c : Bool) (x y : α) : br c (some x) (some y) = some (if c = true then x else y) := by cases c <;> rfl
theorem fx_succ {σ ρ : Type} (f : (σ → Option ρ) → σ → Option ρ) (n : Nat) (s : σ) : fx f (n + 1) s = f (fx f n) s := rfl

/-- a loop that counts i up to m: each round from (state of i) goes on to (state of i + 1), the last one ends -/
theorem fx_for {σ ρ : Type} {f : (σ → Option ρ) → σ → Option ρ} {m : Nat} (s : Nat → σ) (r : Option ρ) (step : ∀ i, i < m → ∀ g, f g (s i) = g (s (i + 1))) (stop : ∀ g, f g (s m) = r) : ∀ (d i n : Nat), i + d = m → d < n → fx f n (s i) = r
  | 0, i, n + 1, h, _ => by
    have : i = m := by omega
    subst this; rw [fx_succ]; exact stop _
  | d + 1, i, n + 1, h, hn => by
    rw [fx_succ, step i (by omega)]
    exact fx_for s r step stop d (i + 1) n (by omega) (by omega)
  | _, _, 0, _, hn => by omega

/-- a loop that counts i up to m and may leave at the first i that is bad -/
theorem fx_find {σ ρ : Type} {f : (σ → Option ρ) → σ → Option ρ} {m : Nat} (s : Nat → σ) (bad : Nat → Bool) (out : Nat → Option ρ) (r : Option ρ)
    (step : ∀ i, i < m → bad i = false → ∀ g, f g (s i) = g (s (i + 1))) (leave : ∀ i, i < m → bad i = true → ∀ g, f g (s i) = out i) (stop : ∀ g, f g (s m) = r) :
    ∀ (d i n : Nat), i + d = m → d < n → (∀ j, i ≤ j → j < m → bad j = false) → fx f n (s i) = r
  | 0, i, n + 1, h, _, _ => by
    have : i = m := by omega
    subst this; rw [fx_succ]; exact stop _
  | d + 1, i, n + 1, h, hn, hb => by
    rw [fx_succ, step i (by omega) (hb i (by omega) (by omega))]
    exact fx_find s bad out r step leave stop d (i + 1) n (by omega) (by omega) fun j h1 h2 => hb j (by omega) h2
  | _, _, 0, _, hn, _ => by omega

theorem fx_leave {σ ρ : Type} {f : (σ → Option ρ) → σ → Option ρ} (s : Nat → σ) (k : Nat) (r : Option ρ) (step : ∀ i, i < k → ∀ g, f g (s i) = g (s (i + 1))) (leave : ∀ g, f g (s k) = r) : ∀ (d i n : Nat), i + d = k → d < n → fx f n (s i) = r :=
  fx_for s r step leave

theorem w64_1 : w64 1 = 1 := by decide
theorem w64_2 : w64 2 = 2 := by decide
theorem w64_3 : w64 3 = 3 := by decide
theorem w64_4 : w64 4 = 4 := by decide
theorem w64_nat {i : Nat} (h : i < 4294967296) : w64 ((i : Int) + 1) = ((i + 1 : Nat) : Int) := by rw [w64_id (by omega)]; omega

theorem gl_eq {α : Type} [Inhabited α] {l : List α} {k : Nat} (h : k < l.length) : gl l k = l[k] := by
  rw [gl, List.getD_eq_getElem?_getD, List.getElem?_eq_getElem h]; rfl

/-- a row that is filled from the left -/
theorem fill_step {α : Type} [Inhabited α] (l : List α) (z : α) {i : Nat} (h : i < l.length) : (l.take i ++ List.replicate (l.length - i) z).set i (gl l i) = l.take (i + 1) ++ List.replicate (l.length - (i + 1)) z := by
  have h1 : (l.take i).length = i := by simp; omega
  obtain ⟨m, hm⟩ : ∃ m, l.length - i = m + 1 := ⟨l.length - i - 1, by omega⟩
  rw [List.set_append_right _ _ (by omega), h1, Nat.sub_self, hm, List.replicate_succ, List.set_cons_zero, gl_eq h, show l.length - (i + 1) = m by omega]
  have h2 : l.take (i + 1) = l.take i ++ [l[i]] := by rw [List.take_add_one, List.getElem?_eq_getElem h]; rfl
  rw [h2, List.append_assoc]; rfl

theorem all_get {α : Type} [Inhabited α] {l : List α} {p : α → Bool} : l.all p = true ↔ ∀ i, i < l.length → p (gl l i) = true := by
  rw [List.all_eq_true]
  constructor
  · intro h i hi; rw [gl_eq hi]; exact h _ (List.getElem_mem hi)
  · intro h x hx
    obtain ⟨i, hi, rfl⟩ := List.getElem_of_mem hx
    have := h i hi
    rwa [gl_eq hi] at this

/-- the first bad place -/
theorem first_bad {p : Nat → Bool} : ∀ m, (∀ i, i < m → p i = true) ∨ ∃ k, k < m ∧ p k = false ∧ ∀ i, i < k → p i = true := fun m => by
  induction m with
  | zero => left; intro i hi; omega
  | succ m ih =>
    rcases ih with h | ⟨k, h1, h2, h3⟩
    · cases hm : p m with
      | true => left; intro i hi; by_cases h4 : i = m; (subst h4; exact hm); exact h i (by omega)
      | false => right; exact ⟨m, by omega, hm, h⟩
    · right; exact ⟨k, by omega, h2, h3⟩
end Go.Av

/- Plain laws: LSum. -/
import Derived.Test.YtklhncjpkkfjmaaLLP0
set_option linter.unusedVariables false
set_option linter.unusedSimpArgs false
namespace Go.Pl
open Go Go.Tv

/-! sums over the first numbers, and over pairs of them -/
def S : Nat → (Nat → Nat) → Nat
  | 0, _ => 0
  | n + 1, f => S n f + f n
def T (n : Nat) (g : Nat → Nat → Nat) : Nat := S n fun i => S i (g i)
def b2 (b : Bool) : Nat := if b = true then 1 else 0
def c2' : Nat → Nat
  | 0 => 0
  | n + 1 => c2' n + n
theorem S_range' (f : Nat → Nat) : ∀ (n : Nat), ((List.range' 0 (n - 0)).map f).sum = S n f
  | 0 => rfl
  | n + 1 => by
    have ih := S_range' f n
    simp only [Nat.sub_zero] at ih ⊢
    rw [List.range'_concat, List.map_append, List.sum_append, ih]
    simp [S]
theorem S_congr {f g : Nat → Nat} : ∀ {n : Nat}, (∀ i, i < n → f i = g i) → S n f = S n g
  | 0, _ => rfl
  | n + 1, h => by rw [S, S, S_congr fun i hi => h i (by omega), h n (by omega)]
theorem S_add (f g : Nat → Nat) : ∀ n, S n (fun i => f i + g i) = S n f + S n g
  | 0 => rfl
  | n + 1 => by rw [S, S, S, S_add f g n]; omega
theorem S_zero : ∀ n, S n (fun _ => 0) = 0
  | 0 => rfl
  | n + 1 => by rw [S, S_zero n]
theorem S_const (k : Nat) : ∀ n, S n (fun _ => k) = n * k
  | 0 => by simp [S]
  | n + 1 => by rw [S, S_const k n, Nat.succ_mul]
theorem S_mul (k : Nat) (f : Nat → Nat) : ∀ n, S n (fun i => k * f i) = k * S n f
  | 0 => rfl
  | n + 1 => by rw [S, S, S_mul k f n, Nat.mul_add]
theorem S_le {f g : Nat → Nat} : ∀ {n : Nat}, (∀ i, i < n → f i ≤ g i) → S n f ≤ S n g
  | 0, _ => Nat.le_refl _
  | n + 1, h => by
    have := S_le (n := n) fun i hi => h i (by omega)
    have := h n (by omega)
    rw [S, S]; omega
theorem S_swap (f : Nat → Nat → Nat) (m : Nat) : ∀ n, S n (fun i => S m (f i)) = S m fun j => S n fun i => f i j
  | 0 => (S_zero m).symm
  | n + 1 => by rw [S, S_swap f m n, ← S_add]; rfl
theorem S_get {f : Nat → Nat} {n i : Nat} (h : i < n) : f i ≤ S n f := by
  induction n with
  | zero => omega
  | succ n ih =>
    rw [S]
    by_cases hi : i = n
    · subst hi; omega
    · have := ih (by omega); omega
theorem T_succ (n : Nat) (g : Nat → Nat → Nat) : T (n + 1) g = T n g + S n (g n) := rfl
theorem T_congr {n : Nat} {f g : Nat → Nat → Nat} (h : ∀ i k, k < i → i < n → f i k = g i k) : T n f = T n g := S_congr fun i hi => S_congr fun k hk => h i k hk hi
theorem T_add (n : Nat) (f g : Nat → Nat → Nat) : T n (fun i k => f i k + g i k) = T n f + T n g := by
  unfold T
  rw [← S_add]; exact S_congr fun i _ => S_add (f i) (g i) i
theorem T_const (k : Nat) : ∀ n, T n (fun _ _ => k) = c2' n * k
  | 0 => by simp [T, S, c2']
  | n + 1 => by rw [T_succ, T_const k n, S_const, c2', Nat.add_mul]
theorem T_swap (f : Nat → Nat → Nat → Nat) (m : Nat) : ∀ n, T n (fun i k => S m fun j => f j i k) = S m fun j => T n (f j)
  | 0 => (S_zero m).symm
  | n + 1 => by
    rw [T_succ, T_swap f m n, S_swap (fun k j => f j n k), ← S_add]; rfl
theorem T_and (p : Nat → Bool) : ∀ n, T n (fun i k => b2 (p i && p k)) = c2' (S n fun i => b2 (p i))
  | 0 => rfl
  | n + 1 => by
    rw [T_succ, T_and p n, S]
    cases hp : p n with
    | false =>
      have : (S n fun k => b2 (false && p k)) = 0 := by simp only [Bool.false_and]; exact S_zero n
      rw [this]; rfl
    | true =>
      simp only [Bool.true_and]
      show _ = c2' (_ + 1)
      rw [c2']
theorem c2'_two (n : Nat) : 2 * c2' n = n * (n - 1) := by
  induction n with
  | zero => rfl
  | succ n ih =>
    rw [c2', Nat.mul_add, ih]
    cases n with
    | zero => rfl
    | succ n => simp only [Nat.add_sub_cancel, Nat.succ_mul, Nat.mul_succ, Nat.mul_add, Nat.add_mul]; omega
theorem c2'_half (n : Nat) : n * (n - 1) / 2 = c2' n := by rw [← c2'_two]; omega
theorem S_countP {α : Type} (p : α → Bool) (z : α) (l : List α) : (S l.length fun m => b2 (p (gl z l m))) = l.countP p := by
  have h : ∀ k, k ≤ l.length → (S k fun m => b2 (p (gl z l m))) = (l.take k).countP p := by
    intro k
    induction k with
    | zero => intro _; simp [S]
    | succ k ih =>
      intro hk
      rw [S, ih (by omega), take_snoc (show k < l.length by omega), List.countP_append, gl_eq (show k < l.length by omega)]
      congr 1
      simp [b2, List.countP_cons]
  rw [h l.length (Nat.le_refl _), List.take_length]
theorem countP_one {α : Type} {p : α → Bool} : ∀ {l : List α}, l.Nodup → (∀ a ∈ l, ∀ b ∈ l, p a = true → p b = true → a = b) → l.countP p = b2 (l.any p)
  | [], _, _ => rfl
  | x :: l, hn, hu => by
    obtain ⟨h1, h2⟩ := List.nodup_cons.1 hn
    have ih := countP_one h2 fun a ha b hb => hu a (List.mem_cons_of_mem _ ha) b (List.mem_cons_of_mem _ hb)
    rw [List.countP_cons, ih, List.any_cons]
    cases hp : p x with
    | false => simp
    | true =>
      have : l.any p = false := by
        rw [List.any_eq_false]
        intro y hy hpy
        have := hu x List.mem_cons_self y (List.mem_cons_of_mem _ hy) hp hpy
        exact h1 (this ▸ hy)
      rw [this]; rfl
/-- a loop over i and all k below, that adds -/
theorem fx_tri {σ τ ρ : Type} {B : (σ → Opt ρ) → σ → Opt ρ} {C : (σ → Opt ρ) → (τ → Opt ρ) → τ → Opt ρ} (N : Nat) (st : Nat → Int → σ) (st2 : Nat → Nat → Int → τ) (g : Nat → Nat → Nat) (fin : Int → Opt ρ) (M : Int) (n : Nat) (hnN : N < n)
    (outer : ∀ self i a, i < N → 0 ≤ a → a ≤ M → B self (st i a) = fx (C self) n (st2 i 0 a))
    (step : ∀ self self2 i k a, i < N → k < i → 0 ≤ a → a + g i k ≤ M → C self self2 (st2 i k a) = self2 (st2 i (k + 1) (a + g i k)))
    (next : ∀ self self2 i a, i < N → 0 ≤ a → a ≤ M → C self self2 (st2 i i a) = self (st (i + 1) a))
    (stop : ∀ self a, 0 ≤ a → a ≤ M → B self (st N a) = fin a) (hM : (T N g : Int) ≤ M) : fx B n (st 0 0) = fin (T N g) := by
  have hs := fx_sum (B := B) N st (fun i => S i (g i)) fin M (fun self i a hi h0 h1 => by
    rw [outer self i a hi h0 (by omega)]
    have := fx_sum (B := C self) i (fun k a => st2 i k a) (g i) (fun a => self (st (i + 1) a)) M (fun self2 k a hk h0 h1 => step self self2 i k a hi hk h0 h1) (fun self2 a h0 h1 => next self self2 i a hi h0 h1) n 0 a (Nat.zero_le _) (by omega) h0 (by rw [S_range']; exact h1)
    rw [this, S_range']) stop n 0 0 (Nat.zero_le _) (by omega) (Int.le_refl _) (by rw [S_range']; simpa [T] using hM)
  rw [hs, S_range']
  simp [T]
end Go.Pl

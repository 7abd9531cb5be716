/- Plain laws: LP0. -/
import Derived.Test.YtklhncjpkkfjmaaZ0
import Derived.OpenShut
set_option linter.unusedVariables false
set_option linter.unusedSimpArgs false
namespace Go.Pl
open Go Go.Tv Go.RowKit

/-! ### the plain words, computed -/
theorem w64_id {x : Int} (h : -9223372036854775808 ≤ x ∧ x ≤ 9223372036854775807) : w64 x = x := by
  unfold w64
  simp only [IntKind.wrap, IntKind.bits, IntKind.signed]
  simp
  omega
@[simp] theorem lt_eq {α β : Type} (a : α) (k : α → Opt β) : Tv.lt a k = k a := rfl
@[simp] theorem ob_some {α β : Type} (a : α) (k : α → Opt β) : ob (some a) k = k a := rfl
@[simp] theorem br_true {β : Type} (x y : Opt β) : br true x y = x := rfl
@[simp] theorem br_false {β : Type} (x y : Opt β) : br false x y = y := rfl
@[simp] theorem ckb_true {β : Type} (k : Opt β) : ckb true k = k := rfl
@[simp] theorem jn_eq {σ β : Type} (rest : σ → Opt β) (body : (σ → Opt β) → Opt β) : jn rest body = body rest := rfl
theorem br_dec {β : Type} {p : Prop} [Decidable p] (x y : Opt β) : br (decide p) x y = if p then x else y := by
  by_cases h : p <;> simp [h, br]
theorem br_some {α : Type} (c : Bool) (x y : α) : br c (some x) (some y) = some (if c = true then x else y) := by cases c <;> rfl
theorem br_pos {β : Type} {c : Bool} (h : c = true) (x y : Opt β) : br c x y = x := by rw [h]; rfl
theorem br_neg {β : Type} {c : Bool} (h : c = false) (x y : Opt β) : br c x y = y := by rw [h]; rfl
theorem ckb_pos {β : Type} {c : Bool} (h : c = true) (k : Opt β) : ckb c k = k := by rw [h]; rfl
theorem br_self {β : Type} (c : Bool) (x : Opt β) : br c x x = x := by cases c <;> rfl
theorem fx_succ {σ ρ : Type} (f : (σ → Opt ρ) → σ → Opt ρ) (n : Nat) (s : σ) : fx f (n + 1) s = f (fx f n) s := rfl

theorem inb_nat {i n : Nat} : inb (i : Int) n = decide (i < n) := by
  unfold inb; congr 1; apply propext; omega
theorem inb_pos {i : Int} {n : Nat} (h0 : 0 ≤ i) (h : i < n) : inb i n = true := decide_eq_true ⟨h0, h⟩
theorem inb_ok {i n : Nat} (h : i < n) : inb (i : Int) n = true := decide_eq_true ⟨by omega, by omega⟩
theorem slb_ok {lo hi : Int} {n : Nat} (h0 : 0 ≤ lo) (h1 : lo ≤ hi) (h2 : hi ≤ n) : slb lo hi n = true := decide_eq_true ⟨h0, h1, h2⟩
theorem apok_ok {b n : Nat} (h : n * b ≤ 140737488355328) (h2 : n ≤ 1125899906842624) : apok b n = true := decide_eq_true ⟨h, by unfold maxLen; omega⟩
theorem mkok_ok {b : Nat} {n m : Int} (h0 : 0 ≤ n) (h1 : n ≤ m) (h2 : (b : Int) * m ≤ 281474976710656) (h3 : m ≤ 9223372036854775807) : mkok b n m = true := decide_eq_true ⟨h0, h1, h2, h3⟩
theorem gl_eq {α : Type} {d : α} {l : List α} {k : Nat} (h : k < l.length) : gl d l k = l[k] := by
  rw [gl, List.getD_eq_getElem?_getD, List.getElem?_eq_getElem h]; rfl
@[simp] theorem toNat_cast (k : Nat) : ((k : Nat) : Int).toNat = k := rfl
@[simp] theorem w64_0 : w64 0 = 0 := by decide
@[simp] theorem w64_1 : w64 1 = 1 := by decide
@[simp] theorem w64_2 : w64 2 = 2 := by decide
@[simp] theorem w64_3 : w64 3 = 3 := by decide
@[simp] theorem w64_4 : w64 4 = 4 := by decide
@[simp] theorem w64_5 : w64 5 = 5 := by decide
@[simp] theorem w64_6 : w64 6 = 6 := by decide
@[simp] theorem w64_7 : w64 7 = 7 := by decide
@[simp] theorem w64_8 : w64 8 = 8 := by decide
@[simp] theorem w64_m1 : w64 (-1) = -1 := by decide
theorem w64_succ {k : Nat} (h : k < 9223372036854775807) : w64 ((k : Int) + 1) = ((k + 1 : Nat) : Int) := by rw [w64_id (by omega)]; omega
theorem sel_eq {α : Type} (c : Bool) (x y : α) : sel c x y = if c = true then x else y := by cases c <;> rfl

theorem amb_eq {β : Type} {e : Bool} {f : Bool → Opt β} {r : Opt β} (h0 : f false = r) (h1 : e = true → f true = r) : amb e f = r := by
  unfold amb
  cases e with
  | false => exact h0
  | true => simp only [h0, h1 rfl, if_true]

/-- more than any loop takes -/
def BIG : Nat := 1208925819614629174706176
theorem big_gt {n m : Nat} (h : BIG ≤ n) (h2 : m < 1208925819614629174706176) : m < n := Nat.lt_of_lt_of_le h2 h

/-! ### loops -/
/-- a loop that ends: what it gives is told by F -/
theorem fx_rule {σ ρ : Type} {B : (σ → Opt ρ) → σ → Opt ρ} (I : σ → Prop) (μ : σ → Nat) (F : σ → Opt ρ)
    (step : ∀ self s, I s → (∀ s', I s' → μ s' < μ s → self s' = F s') → B self s = F s) : ∀ k s, I s → μ s < k → fx B k s = F s
  | 0, _, _, h => by omega
  | k + 1, s, hI, h => by
    rw [fx_succ]
    exact step _ s hI fun s' hI' hlt => fx_rule I μ F step k s' hI' (by omega)

/-- a loop that counts i up to N at most -/
theorem fx_up {σ ρ α : Type} {B : (σ → Opt ρ) → σ → Opt ρ} (N : Nat) (st : Nat → α → σ) (I : Nat → α → Prop) (F : Nat → α → Opt ρ)
    (step : ∀ self i a, i ≤ N → I i a → (∀ a', i < N → I (i + 1) a' → self (st (i + 1) a') = F (i + 1) a') → B self (st i a) = F i a) : ∀ k i a, i ≤ N → I i a → N - i < k → fx B k (st i a) = F i a
  | 0, _, _, _, _, h => by omega
  | k + 1, i, a, hi, hI, h => by
    rw [fx_succ]
    exact step _ i a hi hI fun a' hlt hI' => fx_up N st I F step k (i + 1) a' (by omega) hI' (by omega)

/-- a loop that counts i up to N, with nothing but i that turns -/
theorem fx_cnt {σ ρ : Type} {B : (σ → Opt ρ) → σ → Opt ρ} (N : Nat) (st : Nat → σ) (I : Nat → Prop) (F : Nat → Opt ρ)
    (step : ∀ self i, i ≤ N → I i → (i < N → I (i + 1) → self (st (i + 1)) = F (i + 1)) → B self (st i) = F i) : ∀ k i, i ≤ N → I i → N - i < k → fx B k (st i) = F i
  | 0, _, _, _, h => by omega
  | k + 1, i, hi, hI, h => by
    rw [fx_succ]
    exact step _ i hi hI fun hlt hI' => fx_cnt N st I F step k (i + 1) (by omega) hI' (by omega)

theorem flatMap_congr' {α β : Type} {l : List α} {f g : α → List β} (h : ∀ x, x ∈ l → f x = g x) : l.flatMap f = l.flatMap g := by
  rw [List.flatMap_def, List.flatMap_def, List.map_congr_left h]
theorem range'_cons {i N : Nat} (h : i < N) : List.range' i (N - i) = i :: List.range' (i + 1) (N - (i + 1)) := by
  obtain ⟨d, hd⟩ : ∃ d, N - i = d + 1 := ⟨N - i - 1, by omega⟩
  rw [hd, List.range'_succ, show N - (i + 1) = d by omega]
theorem range'_nil {i N : Nat} (h : N ≤ i) : List.range' i (N - i) = [] := by rw [show N - i = 0 by omega]; rfl

/-- a loop that appends: out := out ++ f i -/
theorem fx_app {σ ρ β : Type} {B : (σ → Opt ρ) → σ → Opt ρ} (N : Nat) (st : Nat → List β → σ) (f : Nat → List β) (fin : List β → Opt ρ) (M : Nat)
    (step : ∀ self i a, i < N → a.length + (f i).length ≤ M → B self (st i a) = self (st (i + 1) (a ++ f i))) (stop : ∀ self a, B self (st N a) = fin a) :
    ∀ k i a, i ≤ N → N - i < k → a.length + ((List.range' i (N - i)).flatMap f).length ≤ M → fx B k (st i a) = fin (a ++ (List.range' i (N - i)).flatMap f)
  | 0, _, _, _, h, _ => by omega
  | k + 1, i, a, hi, h, hM => by
    rw [fx_succ]
    by_cases hlt : i < N
    · rw [range'_cons hlt, List.flatMap_cons] at hM ⊢
      rw [List.length_append] at hM
      rw [step _ i a hlt (by omega), fx_app N st f fin M step stop k (i + 1) (a ++ f i) (by omega) (by omega) (by rw [List.length_append]; omega), List.append_assoc]
    · have : i = N := by omega
      subst this
      rw [stop, range'_nil (Nat.le_refl _)]; simp
/-- a loop that adds: s := s + g i -/
theorem fx_sum {σ ρ : Type} {B : (σ → Opt ρ) → σ → Opt ρ} (N : Nat) (st : Nat → Int → σ) (g : Nat → Nat) (fin : Int → Opt ρ) (M : Int)
    (step : ∀ self i a, i < N → 0 ≤ a → a + g i ≤ M → B self (st i a) = self (st (i + 1) (a + g i))) (stop : ∀ self a, 0 ≤ a → a ≤ M → B self (st N a) = fin a) :
    ∀ k i a, i ≤ N → N - i < k → 0 ≤ a → a + (((List.range' i (N - i)).map g).sum : Nat) ≤ M → fx B k (st i a) = fin (a + (((List.range' i (N - i)).map g).sum : Nat))
  | 0, _, _, _, h, _, _ => by omega
  | k + 1, i, a, hi, h, h0, hM => by
    rw [fx_succ]
    by_cases hlt : i < N
    · rw [range'_cons hlt, List.map_cons, List.sum_cons] at hM ⊢
      rw [step _ i a hlt h0 (by omega), fx_sum N st g fin M step stop k (i + 1) (a + g i) (by omega) (by omega) (by omega) (by omega)]
      congr 1; omega
    · have : i = N := by omega
      subst this
      rw [range'_nil (Nat.le_refl _)] at hM ⊢
      rw [stop _ _ h0 (by simpa using hM)]; simp

/-- a loop that looks for the first that has p -/
theorem fx_find {σ ρ α : Type} {B : (σ → Opt ρ) → σ → Opt ρ} (l : List α) (st : Nat → σ) (p : α → Bool) (out : Nat → Opt ρ) (fin : Opt ρ)
    (step : ∀ self i (h : i < l.length), B self (st i) = if p l[i] = true then out i else self (st (i + 1))) (stop : ∀ self, B self (st l.length) = fin) (k : Nat) (hk : l.length < k) :
    fx B k (st 0) = match l.findIdx? p with | some i => out i | none => fin := by
  have go : ∀ (k i : Nat), i ≤ l.length → l.length - i < k → fx B k (st i) = match (l.drop i).findIdx? p with | some j => out (i + j) | none => fin := by
    intro k
    induction k with
    | zero => intro i _ h; omega
    | succ k ih =>
      intro i hi h
      rw [fx_succ]
      by_cases hlt : i < l.length
      · rw [step _ i hlt, List.drop_eq_getElem_cons hlt, List.findIdx?_cons]
        by_cases hp : p l[i] = true
        · simp [hp]
        · rw [if_neg hp, ih (i + 1) (by omega) (by omega)]
          simp only [hp, Bool.false_eq_true, if_false]
          cases hq : (l.drop (i + 1)).findIdx? p with
          | none => rfl
          | some j => simp only [Option.map_some]; congr 1; omega
      · have : i = l.length := by omega
        subst this
        rw [stop]; simp
  have := go k 0 (Nat.zero_le _) (by omega)
  simpa using this
theorem findIdx?_any {α : Type} (l : List α) (p : α → Bool) : (l.findIdx? p).isSome = l.any p := List.findIdx?_isSome

/-- a loop over a list with an accumulator -/
theorem fx_foldl {σ ρ α β : Type} {B : (σ → Opt ρ) → σ → Opt ρ} (l : List β) (st : Nat → α → σ) (op : α → β → α) (fin : α → Opt ρ) (I : Nat → α → Prop) (hI : ∀ i a (h : i < l.length), I i a → I (i + 1) (op a l[i]))
    (step : ∀ self i a (h : i < l.length), I i a → B self (st i a) = self (st (i + 1) (op a l[i]))) (stop : ∀ self a, I l.length a → B self (st l.length a) = fin a) (k : Nat) (hk : l.length < k) (a : α) (h0 : I 0 a) :
    fx B k (st 0 a) = fin (l.foldl op a) := by
  have go : ∀ (k i : Nat) (a : α), i ≤ l.length → l.length - i < k → I i a → fx B k (st i a) = fin ((l.drop i).foldl op a) := by
    intro k
    induction k with
    | zero => intro i _ _ h; omega
    | succ k ih =>
      intro i a hi h ha
      rw [fx_succ]
      by_cases hlt : i < l.length
      · rw [step _ i a hlt ha, List.drop_eq_getElem_cons hlt, List.foldl_cons, ih (i + 1) _ (by omega) (by omega) (hI i a hlt ha)]
      · have : i = l.length := by omega
        subst this
        rw [stop _ _ ha]; simp
  have := go k 0 a (Nat.zero_le _) (by omega) h0
  simpa using this

theorem drop_cons {α : Type} {l : List α} {i : Nat} (h : i < l.length) : l.drop i = l[i] :: l.drop (i + 1) := List.drop_eq_getElem_cons h
theorem dec_drop {α : Type} [DecidableEq α] {a b : List α} {i : Nat} (h1 : i < a.length) (h2 : i < b.length) : decide (a.drop i = b.drop i) = (decide (a[i] = b[i]) && decide (a.drop (i + 1) = b.drop (i + 1))) := by
  rw [drop_cons h1, drop_cons h2]
  simp only [List.cons.injEq, Bool.decide_and]
theorem take_snoc {α : Type} {l : List α} {i : Nat} (h : i < l.length) : l.take (i + 1) = l.take i ++ [l[i]] := by rw [List.take_add_one, List.getElem?_eq_getElem h]; rfl

/-- a row that is filled from the left -/
theorem fill_step {α : Type} (l : List α) (z : α) {i : Nat} (h : i < l.length) : (l.take i ++ List.replicate (l.length - i) z).set i l[i] = l.take (i + 1) ++ List.replicate (l.length - (i + 1)) z := by
  have h1 : (l.take i).length = i := by simp; omega
  obtain ⟨m, hm⟩ : ∃ m, l.length - i = m + 1 := ⟨l.length - i - 1, by omega⟩
  rw [List.set_append_right _ _ (by omega), h1, Nat.sub_self, hm, List.replicate_succ, List.set_cons_zero, show l.length - (i + 1) = m by omega, take_snoc h, List.append_assoc]; rfl
theorem ok_int {x : Int} (h : (Ty.int .i64).ok x) : -9223372036854775808 ≤ x ∧ x ≤ 9223372036854775807 := bounds_i64 h
theorem ok_list {e : Ty} {x : List e.den} (h : (Ty.sl e).ok x) : List.length x ≤ 9223372036854775807 := by
  have := h.1
  unfold maxLen at this; omega
theorem ok_str {s : ByteArray} (h : Ty.str.ok s) : s.size ≤ 9223372036854775807 := by
  have : s.size ≤ maxLen := h
  unfold maxLen at this; omega
end Go.Pl

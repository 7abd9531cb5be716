/- Plain laws: LP0. -/
import Derived.Test.YtifcbamdncpahaaDoorZ0
import Derived.OpenShut
set_option linter.unusedVariables false
set_option linter.unusedSimpArgs false
namespace Go.Pl
open Go Go.Tv Go.RowKit
theorem w64_id {x : Int} (h : -9223372036854775808 ≤ x ∧ x ≤ 9223372036854775807) : w64 x = x := by
  unfold w64
  simp only [IntKind.wrap, IntKind.bits, IntKind.signed]
  simp
  omega
@[simp] theorem lt_eq {α β : Type} (a : α) (k : α → Opt β) : Tv.lt a k = k a := rfl
@[simp] theorem ob_some {α β : Type} (a : α) (k : α → Opt β) : ob (some a) k = k a := rfl
@[simp] theorem br_true {β : Type} (x y : Opt β) : br true x y = x := rfl
@[simp] theorem br_false {β : Type} (x y : Opt β) : br false x y = y := rfl
@[simp] theorem ckb_true {β : Type} (k : Opt β) : ckb true k = k := rfl
@[simp] theorem jn_eq {σ β : Type} (rest : σ → Opt β) (body : (σ → Opt β) → Opt β) : jn rest body = body rest := rfl
theorem br_dec {β : Type} {p : Prop} [Decidable p] (x y : Opt β) : br (decide p) x y = if p then x else y := by
  by_cases h : p <;> simp [h, br]
theorem ckb_pos {β : Type} {c : Bool} (h : c = true) (k : Opt β) : ckb c k = k := by rw [h]; rfl
theorem br_self {β : Type} (c : Bool) (x : Opt β) : br c x x = x := by cases c <;> rfl
theorem fx_succ {σ ρ : Type} (f : (σ → Opt ρ) → σ → Opt ρ) (n : Nat) (s : σ) : fx f (n + 1) s = f (fx f n) s := rfl
theorem inb_pos {i : Int} {n : Nat} (h0 : 0 ≤ i) (h : i < n) : inb i n = true := decide_eq_true ⟨h0, h⟩
theorem inb_ok {i n : Nat} (h : i < n) : inb (i : Int) n = true := decide_eq_true ⟨by omega, by omega⟩
theorem slb_ok {lo hi : Int} {n : Nat} (h0 : 0 ≤ lo) (h1 : lo ≤ hi) (h2 : hi ≤ n) : slb lo hi n = true := decide_eq_true ⟨h0, h1, h2⟩
theorem mkok_ok {b : Nat} {n m : Int} (h0 : 0 ≤ n) (h1 : n ≤ m) (h2 : (b : Int) * m ≤ 281474976710656) (h3 : m ≤ 9223372036854775807) : mkok b n m = true := decide_eq_true ⟨h0, h1, h2, h3⟩
theorem gl_eq {α : Type} {d : α} {l : List α} {k : Nat} (h : k < l.length) : gl d l k = l[k] := by
  rw [gl, List.getD_eq_getElem?_getD, List.getElem?_eq_getElem h]; rfl
@[simp] theorem toNat_cast (k : Nat) : ((k : Nat) : Int).toNat = k := rfl
@[simp] theorem w64_0 : w64 0 = 0 := by decide
@[simp] theorem w64_1 : w64 1 = 1 := by decide
@[simp] theorem w64_2 : w64 2 = 2 := by decide
@[simp] theorem w64_3 : w64 3 = 3 := by decide
@[simp] theorem w64_4 : w64 4 = 4 := by decide
@[simp] theorem w64_5 : w64 5 = 5 := by decide
@[simp] theorem w64_6 : w64 6 = 6 := by decide
@[simp] theorem w64_7 : w64 7 = 7 := by decide
@[simp] theorem w64_8 : w64 8 = 8 := by decide
@[simp] theorem w64_m1 : w64 (-1) = -1 := by decide
theorem w64_succ {k : Nat} (h : k < 9223372036854775807) : w64 ((k : Int) + 1) = ((k + 1 : Nat) : Int) := by rw [w64_id (by omega)]; omega
def BIG : Nat := 1208925819614629174706176
theorem big_gt {n m : Nat} (h : BIG ≤ n) (h2 : m < 1208925819614629174706176) : m < n := Nat.lt_of_lt_of_le h2 h
theorem fx_find {σ ρ α : Type} {B : (σ → Opt ρ) → σ → Opt ρ} (l : List α) (st : Nat → σ) (p : α → Bool) (out : Nat → Opt ρ) (fin : Opt ρ)
    (step : ∀ self i (h : i < l.length), B self (st i) = if p l[i] = true then out i else self (st (i + 1))) (stop : ∀ self, B self (st l.length) = fin) (k : Nat) (hk : l.length < k) :
    fx B k (st 0) = match l.findIdx? p with | some i => out i | none => fin := by
  have go : ∀ (k i : Nat), i ≤ l.length → l.length - i < k → fx B k (st i) = match (l.drop i).findIdx? p with | some j => out (i + j) | none => fin := by
    intro k
    induction k with
    | zero => intro i _ h; omega
    | succ k ih =>
      intro i hi h
      rw [fx_succ]
      by_cases hlt : i < l.length
      · rw [step _ i hlt, List.drop_eq_getElem_cons hlt, List.findIdx?_cons]
        by_cases hp : p l[i] = true
        · simp [hp]
        · rw [if_neg hp, ih (i + 1) (by omega) (by omega)]
          simp only [hp, Bool.false_eq_true, if_false]
          cases hq : (l.drop (i + 1)).findIdx? p with
          | none => rfl
          | some j => simp only [Option.map_some]; congr 1; omega
      · have : i = l.length := by omega
        subst this
        rw [stop]; simp
  have := go k 0 (Nat.zero_le _) (by omega)
  simpa using this
theorem findIdx?_any {α : Type} (l : List α) (p : α → Bool) : (l.findIdx? p).isSome = l.any p := List.findIdx?_isSome
theorem fx_foldl {σ ρ α β : Type} {B : (σ → Opt ρ) → σ → Opt ρ} (l : List β) (st : Nat → α → σ) (op : α → β → α) (fin : α → Opt ρ) (I : Nat → α → Prop) (hI : ∀ i a (h : i < l.length), I i a → I (i + 1) (op a l[i]))
    (step : ∀ self i a (h : i < l.length), I i a → B self (st i a) = self (st (i + 1) (op a l[i]))) (stop : ∀ self a, I l.length a → B self (st l.length a) = fin a) (k : Nat) (hk : l.length < k) (a : α) (h0 : I 0 a) :
    fx B k (st 0 a) = fin (l.foldl op a) := by
  have go : ∀ (k i : Nat) (a : α), i ≤ l.length → l.length - i < k → I i a → fx B k (st i a) = fin ((l.drop i).foldl op a) := by
    intro k
    induction k with
    | zero => intro i _ _ h; omega
    | succ k ih =>
      intro i a hi h ha
      rw [fx_succ]
      by_cases hlt : i < l.length
      · rw [step _ i a hlt ha, List.drop_eq_getElem_cons hlt, List.foldl_cons, ih (i + 1) _ (by omega) (by omega) (hI i a hlt ha)]
      · have : i = l.length := by omega
        subst this
        rw [stop _ _ ha]; simp
  have := go k 0 a (Nat.zero_le _) (by omega) h0
  simpa using this
theorem take_snoc {α : Type} {l : List α} {i : Nat} (h : i < l.length) : l.take (i + 1) = l.take i ++ [l[i]] := by rw [List.take_add_one, List.getElem?_eq_getElem h]; rfl
end Go.Pl

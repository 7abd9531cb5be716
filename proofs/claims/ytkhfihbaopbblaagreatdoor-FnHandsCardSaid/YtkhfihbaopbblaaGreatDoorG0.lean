/- Plain laws: LP0, L2, L1, LNum, LCut, L4. -/
import Derived.Test.YtkhfihbaopbblaaGreatDoorZ0
import Derived.OpenShut
import Derived.Test.YtkhfihbaopbblaaGreatDoorPL
import Derived.Lib.IndexLaws
import Derived.Lib.ItoaNum
set_option linter.unusedVariables false
set_option linter.unusedSimpArgs false
namespace Go.Pl
open Go Go.Tv Go.RowKit
theorem w64_id {x : Int} (h : -9223372036854775808 ≤ x ∧ x ≤ 9223372036854775807) : w64 x = x := by
  unfold w64
  simp only [IntKind.wrap, IntKind.bits, IntKind.signed]
  simp
  omega
@[simp] theorem lt_eq {α β : Type} (a : α) (k : α → Opt β) : Tv.lt a k = k a := rfl
@[simp] theorem ob_some {α β : Type} (a : α) (k : α → Opt β) : ob (some a) k = k a := rfl
@[simp] theorem br_true {β : Type} (x y : Opt β) : br true x y = x := rfl
@[simp] theorem br_false {β : Type} (x y : Opt β) : br false x y = y := rfl
@[simp] theorem ckb_true {β : Type} (k : Opt β) : ckb true k = k := rfl
@[simp] theorem jn_eq {σ β : Type} (rest : σ → Opt β) (body : (σ → Opt β) → Opt β) : jn rest body = body rest := rfl
theorem br_dec {β : Type} {p : Prop} [Decidable p] (x y : Opt β) : br (decide p) x y = if p then x else y := by
  by_cases h : p <;> simp [h, br]
theorem br_some {α : Type} (c : Bool) (x y : α) : br c (some x) (some y) = some (if c = true then x else y) := by cases c <;> rfl
theorem br_pos {β : Type} {c : Bool} (h : c = true) (x y : Opt β) : br c x y = x := by rw [h]; rfl
theorem br_neg {β : Type} {c : Bool} (h : c = false) (x y : Opt β) : br c x y = y := by rw [h]; rfl
theorem ckb_pos {β : Type} {c : Bool} (h : c = true) (k : Opt β) : ckb c k = k := by rw [h]; rfl
theorem br_self {β : Type} (c : Bool) (x : Opt β) : br c x x = x := by cases c <;> rfl
theorem fx_succ {σ ρ : Type} (f : (σ → Opt ρ) → σ → Opt ρ) (n : Nat) (s : σ) : fx f (n + 1) s = f (fx f n) s := rfl
theorem inb_pos {i : Int} {n : Nat} (h0 : 0 ≤ i) (h : i < n) : inb i n = true := decide_eq_true ⟨h0, h⟩
theorem inb_ok {i n : Nat} (h : i < n) : inb (i : Int) n = true := decide_eq_true ⟨by omega, by omega⟩
theorem slb_ok {lo hi : Int} {n : Nat} (h0 : 0 ≤ lo) (h1 : lo ≤ hi) (h2 : hi ≤ n) : slb lo hi n = true := decide_eq_true ⟨h0, h1, h2⟩
theorem apok_ok {b n : Nat} (h : n * b ≤ 140737488355328) (h2 : n ≤ 1125899906842624) : apok b n = true := decide_eq_true ⟨h, by unfold maxLen; omega⟩
theorem mkok_ok {b : Nat} {n m : Int} (h0 : 0 ≤ n) (h1 : n ≤ m) (h2 : (b : Int) * m ≤ 281474976710656) (h3 : m ≤ 9223372036854775807) : mkok b n m = true := decide_eq_true ⟨h0, h1, h2, h3⟩
theorem gl_eq {α : Type} {d : α} {l : List α} {k : Nat} (h : k < l.length) : gl d l k = l[k] := by
  rw [gl, List.getD_eq_getElem?_getD, List.getElem?_eq_getElem h]; rfl
@[simp] theorem toNat_cast (k : Nat) : ((k : Nat) : Int).toNat = k := rfl
@[simp] theorem w64_0 : w64 0 = 0 := by decide
@[simp] theorem w64_1 : w64 1 = 1 := by decide
@[simp] theorem w64_2 : w64 2 = 2 := by decide
@[simp] theorem w64_3 : w64 3 = 3 := by decide
@[simp] theorem w64_4 : w64 4 = 4 := by decide
@[simp] theorem w64_5 : w64 5 = 5 := by decide
@[simp] theorem w64_6 : w64 6 = 6 := by decide
@[simp] theorem w64_7 : w64 7 = 7 := by decide
@[simp] theorem w64_8 : w64 8 = 8 := by decide
@[simp] theorem w64_m1 : w64 (-1) = -1 := by decide
theorem w64_succ {k : Nat} (h : k < 9223372036854775807) : w64 ((k : Int) + 1) = ((k + 1 : Nat) : Int) := by rw [w64_id (by omega)]; omega
theorem amb_eq {β : Type} {e : Bool} {f : Bool → Opt β} {r : Opt β} (h0 : f false = r) (h1 : e = true → f true = r) : amb e f = r := by
  unfold amb
  cases e with
  | false => exact h0
  | true => simp only [h0, h1 rfl, if_true]
def BIG : Nat := 1208925819614629174706176
theorem big_gt {n m : Nat} (h : BIG ≤ n) (h2 : m < 1208925819614629174706176) : m < n := Nat.lt_of_lt_of_le h2 h
theorem fx_up {σ ρ α : Type} {B : (σ → Opt ρ) → σ → Opt ρ} (N : Nat) (st : Nat → α → σ) (I : Nat → α → Prop) (F : Nat → α → Opt ρ)
    (step : ∀ self i a, i ≤ N → I i a → (∀ a', i < N → I (i + 1) a' → self (st (i + 1) a') = F (i + 1) a') → B self (st i a) = F i a) : ∀ k i a, i ≤ N → I i a → N - i < k → fx B k (st i a) = F i a
  | 0, _, _, _, _, h => by omega
  | k + 1, i, a, hi, hI, h => by
    rw [fx_succ]
    exact step _ i a hi hI fun a' hlt hI' => fx_up N st I F step k (i + 1) a' (by omega) hI' (by omega)
theorem fx_cnt {σ ρ : Type} {B : (σ → Opt ρ) → σ → Opt ρ} (N : Nat) (st : Nat → σ) (I : Nat → Prop) (F : Nat → Opt ρ)
    (step : ∀ self i, i ≤ N → I i → (i < N → I (i + 1) → self (st (i + 1)) = F (i + 1)) → B self (st i) = F i) : ∀ k i, i ≤ N → I i → N - i < k → fx B k (st i) = F i
  | 0, _, _, _, h => by omega
  | k + 1, i, hi, hI, h => by
    rw [fx_succ]
    exact step _ i hi hI fun hlt hI' => fx_cnt N st I F step k (i + 1) (by omega) hI' (by omega)
theorem range'_cons {i N : Nat} (h : i < N) : List.range' i (N - i) = i :: List.range' (i + 1) (N - (i + 1)) := by
  obtain ⟨d, hd⟩ : ∃ d, N - i = d + 1 := ⟨N - i - 1, by omega⟩
  rw [hd, List.range'_succ, show N - (i + 1) = d by omega]
theorem range'_nil {i N : Nat} (h : N ≤ i) : List.range' i (N - i) = [] := by rw [show N - i = 0 by omega]; rfl
theorem fx_app {σ ρ β : Type} {B : (σ → Opt ρ) → σ → Opt ρ} (N : Nat) (st : Nat → List β → σ) (f : Nat → List β) (fin : List β → Opt ρ) (M : Nat)
    (step : ∀ self i a, i < N → a.length + (f i).length ≤ M → B self (st i a) = self (st (i + 1) (a ++ f i))) (stop : ∀ self a, B self (st N a) = fin a) :
    ∀ k i a, i ≤ N → N - i < k → a.length + ((List.range' i (N - i)).flatMap f).length ≤ M → fx B k (st i a) = fin (a ++ (List.range' i (N - i)).flatMap f)
  | 0, _, _, _, h, _ => by omega
  | k + 1, i, a, hi, h, hM => by
    rw [fx_succ]
    by_cases hlt : i < N
    · rw [range'_cons hlt, List.flatMap_cons] at hM ⊢
      rw [List.length_append] at hM
      rw [step _ i a hlt (by omega), fx_app N st f fin M step stop k (i + 1) (a ++ f i) (by omega) (by omega) (by rw [List.length_append]; omega), List.append_assoc]
    · have : i = N := by omega
      subst this
      rw [stop, range'_nil (Nat.le_refl _)]; simp
theorem fx_sum {σ ρ : Type} {B : (σ → Opt ρ) → σ → Opt ρ} (N : Nat) (st : Nat → Int → σ) (g : Nat → Nat) (fin : Int → Opt ρ) (M : Int)
    (step : ∀ self i a, i < N → 0 ≤ a → a + g i ≤ M → B self (st i a) = self (st (i + 1) (a + g i))) (stop : ∀ self a, 0 ≤ a → a ≤ M → B self (st N a) = fin a) :
    ∀ k i a, i ≤ N → N - i < k → 0 ≤ a → a + (((List.range' i (N - i)).map g).sum : Nat) ≤ M → fx B k (st i a) = fin (a + (((List.range' i (N - i)).map g).sum : Nat))
  | 0, _, _, _, h, _, _ => by omega
  | k + 1, i, a, hi, h, h0, hM => by
    rw [fx_succ]
    by_cases hlt : i < N
    · rw [range'_cons hlt, List.map_cons, List.sum_cons] at hM ⊢
      rw [step _ i a hlt h0 (by omega), fx_sum N st g fin M step stop k (i + 1) (a + g i) (by omega) (by omega) (by omega) (by omega)]
      congr 1; omega
    · have : i = N := by omega
      subst this
      rw [range'_nil (Nat.le_refl _)] at hM ⊢
      rw [stop _ _ h0 (by simpa using hM)]; simp
theorem fx_find {σ ρ α : Type} {B : (σ → Opt ρ) → σ → Opt ρ} (l : List α) (st : Nat → σ) (p : α → Bool) (out : Nat → Opt ρ) (fin : Opt ρ)
    (step : ∀ self i (h : i < l.length), B self (st i) = if p l[i] = true then out i else self (st (i + 1))) (stop : ∀ self, B self (st l.length) = fin) (k : Nat) (hk : l.length < k) :
    fx B k (st 0) = match l.findIdx? p with | some i => out i | none => fin := by
  have go : ∀ (k i : Nat), i ≤ l.length → l.length - i < k → fx B k (st i) = match (l.drop i).findIdx? p with | some j => out (i + j) | none => fin := by
    intro k
    induction k with
    | zero => intro i _ h; omega
    | succ k ih =>
      intro i hi h
      rw [fx_succ]
      by_cases hlt : i < l.length
      · rw [step _ i hlt, List.drop_eq_getElem_cons hlt, List.findIdx?_cons]
        by_cases hp : p l[i] = true
        · simp [hp]
        · rw [if_neg hp, ih (i + 1) (by omega) (by omega)]
          simp only [hp, Bool.false_eq_true, if_false]
          cases hq : (l.drop (i + 1)).findIdx? p with
          | none => rfl
          | some j => simp only [Option.map_some]; congr 1; omega
      · have : i = l.length := by omega
        subst this
        rw [stop]; simp
  have := go k 0 (Nat.zero_le _) (by omega)
  simpa using this
theorem findIdx?_any {α : Type} (l : List α) (p : α → Bool) : (l.findIdx? p).isSome = l.any p := List.findIdx?_isSome
theorem fx_foldl {σ ρ α β : Type} {B : (σ → Opt ρ) → σ → Opt ρ} (l : List β) (st : Nat → α → σ) (op : α → β → α) (fin : α → Opt ρ) (I : Nat → α → Prop) (hI : ∀ i a (h : i < l.length), I i a → I (i + 1) (op a l[i]))
    (step : ∀ self i a (h : i < l.length), I i a → B self (st i a) = self (st (i + 1) (op a l[i]))) (stop : ∀ self a, I l.length a → B self (st l.length a) = fin a) (k : Nat) (hk : l.length < k) (a : α) (h0 : I 0 a) :
    fx B k (st 0 a) = fin (l.foldl op a) := by
  have go : ∀ (k i : Nat) (a : α), i ≤ l.length → l.length - i < k → I i a → fx B k (st i a) = fin ((l.drop i).foldl op a) := by
    intro k
    induction k with
    | zero => intro i _ _ h; omega
    | succ k ih =>
      intro i a hi h ha
      rw [fx_succ]
      by_cases hlt : i < l.length
      · rw [step _ i a hlt ha, List.drop_eq_getElem_cons hlt, List.foldl_cons, ih (i + 1) _ (by omega) (by omega) (hI i a hlt ha)]
      · have : i = l.length := by omega
        subst this
        rw [stop _ _ ha]; simp
  have := go k 0 a (Nat.zero_le _) (by omega) h0
  simpa using this
theorem drop_cons {α : Type} {l : List α} {i : Nat} (h : i < l.length) : l.drop i = l[i] :: l.drop (i + 1) := List.drop_eq_getElem_cons h
theorem dec_drop {α : Type} [DecidableEq α] {a b : List α} {i : Nat} (h1 : i < a.length) (h2 : i < b.length) : decide (a.drop i = b.drop i) = (decide (a[i] = b[i]) && decide (a.drop (i + 1) = b.drop (i + 1))) := by
  rw [drop_cons h1, drop_cons h2]
  simp only [List.cons.injEq, Bool.decide_and]
theorem take_snoc {α : Type} {l : List α} {i : Nat} (h : i < l.length) : l.take (i + 1) = l.take i ++ [l[i]] := by rw [List.take_add_one, List.getElem?_eq_getElem h]; rfl
end Go.Pl
namespace Go.Pl
open Go Go.Tv Go.RowKit
abbrev Card := V4 Int
def in3 (x : Int) : Bool := decide (0 ≤ x ∧ x ≤ 2)
def isC (c : Card) : Bool := in3 c.x0 && in3 c.x1 && in3 c.x2 && in3 c.x3
def num (c : Card) : Int := 27 * c.x0 + 9 * c.x1 + 3 * c.x2 + c.x3
theorem in3_iff {x : Int} : in3 x = true ↔ 0 ≤ x ∧ x ≤ 2 := by unfold in3; exact decide_eq_true_iff
theorem isC_iff {c : Card} : isC c = true ↔ (0 ≤ c.x0 ∧ c.x0 ≤ 2) ∧ (0 ≤ c.x1 ∧ c.x1 ≤ 2) ∧ (0 ≤ c.x2 ∧ c.x2 ≤ 2) ∧ 0 ≤ c.x3 ∧ c.x3 ≤ 2 := by
  unfold isC; simp only [Bool.and_eq_true, in3_iff, and_assoc]
theorem num_bd {c : Card} (h : isC c = true) : 0 ≤ num c ∧ num c ≤ 80 := by
  rw [isC_iff] at h; unfold num; omega
theorem s_l1In_eq (n : Nat) (x a b : Int) : s_l1In n x a b = some (decide (a ≤ x ∧ x ≤ b)) := by
  unfold s_l1In
  by_cases h : a ≤ x <;> simp [h]
theorem i_within_eq (n : Nat) (x a b : Int) : i_within n x a b = some (decide (a ≤ x ∧ x ≤ b)) := by
  unfold i_within
  by_cases h : a ≤ x <;> simp [h]
theorem s_l1In_3 (n : Nat) (x : Int) : s_l1In n x 0 2 = some (in3 x) := s_l1In_eq n x 0 2
theorem i_within_3 (n : Nat) (x : Int) : i_within n x 0 2 = some (in3 x) := i_within_eq n x 0 2
theorem s_l2Card_eq {n : Nat} (hn : BIG ≤ n) (c : Card) : s_l2Card n c = some (isC c) := by
  obtain ⟨m, rfl⟩ : ∃ m, n = m + 5 := ⟨n - 5, by unfold BIG at hn; omega⟩
  unfold s_l2Card isC
  simp only [fx_succ, s_l2Card_L1, s_l1In_3, ob_some]
  simp only [inb, V4.get]
  cases h0 : in3 c.x0 <;> cases h1 : in3 c.x1 <;> cases h2 : in3 c.x2 <;> cases h3 : in3 c.x3 <;> simp [h0, h1, h2, h3]
theorem i_IsCard_eq {n : Nat} (hn : BIG ≤ n) (c : Card) : i_IsCard n c = some (isC c) := by
  obtain ⟨m, rfl⟩ : ∃ m, n = m + 5 := ⟨n - 5, by unfold BIG at hn; omega⟩
  unfold i_IsCard i_allWithin slices_ContainsFunc_Sint_int_'l_i_allWithin_1pp slices_IndexFunc_Sint_int_'l_i_allWithin_1pp isC
  simp only [fx_succ, slices_IndexFunc_Sint_int_'l_i_allWithin_1pp_L1, i_allWithin_1'pp, i_within_3, ob_some]
  simp only [inb, V4.els, gl]
  cases h0 : in3 c.x0 <;> cases h1 : in3 c.x1 <;> cases h2 : in3 c.x2 <;> cases h3 : in3 c.x3 <;> simp [h0, h1, h2, h3, i_within_3]
theorem s_l2Number_eq {n : Nat} {c : Card} (h : isC c = true) : s_l2Number n c = some (num c) := by
  rw [isC_iff] at h
  unfold s_l2Number num
  simp only [lt_eq]
  rw [w64_id (x := 27 * c.x0) (by omega), w64_id (x := 9 * c.x1) (by omega), w64_id (x := 3 * c.x2) (by omega), w64_id (x := 27 * c.x0 + 9 * c.x1) (by omega), w64_id (x := 27 * c.x0 + 9 * c.x1 + 3 * c.x2) (by omega), w64_id (by omega)]
theorem i_number_eq {n : Nat} (hn : BIG ≤ n) {c : Card} (h : isC c = true) : i_number n c = some (num c) := by
  obtain ⟨m, rfl⟩ : ∃ m, n = m + 5 := ⟨n - 5, by unfold BIG at hn; omega⟩
  rw [isC_iff] at h
  unfold i_number num
  simp only [fx_succ, i_number_L1, lt_eq]
  simp only [inb, V4.get]
  simp
  rw [w64_id (x := c.x0) (by omega), w64_id (x := 3 * c.x0) (by omega), w64_id (x := 3 * c.x0 + c.x1) (by omega), w64_id (x := 3 * (3 * c.x0 + c.x1)) (by omega), w64_id (x := 3 * (3 * c.x0 + c.x1) + c.x2) (by omega), w64_id (x := 3 * (3 * (3 * c.x0 + c.x1) + c.x2)) (by omega), w64_id (by omega)]
  omega
def handP : Option Card → List Card → Bool
  | _, [] => true
  | p, c :: l => isC c && (match p with | none => true | some q => decide (num q < num c)) && handP (some c) l
def hand (h : List Card) : Bool := handP none h && decide (h.length ≤ 27)
def prevO (h : List Card) : Nat → Option Card
  | 0 => none
  | i + 1 => h[i]?
theorem handP_cons {p : Option Card} {c : Card} {l : List Card} : handP p (c :: l) = (isC c && (match p with | none => true | some q => decide (num q < num c)) && handP (some c) l) := rfl
theorem s_l2Less_eq {n : Nat} {a b : Card} (ha : isC a = true) (hb : isC b = true) : s_l2Less n a b = some (decide (num a < num b)) := by
  unfold s_l2Less
  rw [s_l2Number_eq ha, s_l2Number_eq hb]; rfl
theorem s_l2Hand_eq {n : Nat} (hn : BIG ≤ n) {h : List Card} (hl : h.length ≤ 9223372036854775807) : s_l2Hand n h = some (hand h) := by
  unfold s_l2Hand hand
  refine fx_cnt (B := s_l2Hand_L1 n) h.length (fun i => (h, (i : Int))) (fun i => ∀ q, prevO h i = some q → isC q = true) (fun i => some (handP (prevO h i) (h.drop i) && decide (h.length ≤ 27))) ?_ n 0 (Nat.zero_le _) (fun q hq => by cases hq) (big_gt hn (by omega))
  intro self i hi hI hself
  simp only [s_l2Hand_L1]
  by_cases h1 : i < h.length
  · rw [drop_cons h1, handP_cons]
    by_cases h2 : i ≤ 27
    · have e1 : decide ((i : Int) < (h.length : Int)) = true := decide_eq_true (by omega)
      have e2 : decide ((i : Int) ≤ 27) = true := decide_eq_true (by omega)
      simp only [e1, e2, br_true, ob_some, inb_ok h1, ckb_true, toNat_cast, gl_eq h1, s_l2Card_eq hn]
      cases hc : isC h[i] with
      | false => simp
      | true =>
        have hnext : self (h, w64 ((i : Int) + 1)) = some (handP (some h[i]) (h.drop (i + 1)) && decide (h.length ≤ 27)) := by
          rw [w64_succ (by omega), hself h1 fun q hq => by
            simp only [prevO] at hq
            rw [List.getElem?_eq_getElem h1] at hq; injection hq with hq; subst hq; exact hc]
          simp only [prevO, List.getElem?_eq_getElem h1]
        cases i with
        | zero => simpa [prevO] using hnext
        | succ j =>
          have hj : j < h.length := by omega
          have hcj := hI h[j] (by simp only [prevO]; exact List.getElem?_eq_getElem hj)
          have e3 : decide ((0 : Int) < ((j + 1 : Nat) : Int)) = true := decide_eq_true (by omega)
          have e4 : w64 (((j + 1 : Nat) : Int) - 1) = (j : Int) := by rw [w64_id (by omega)]; omega
          simp only [e3, e4, br_true, br_false, Bool.not_true, lt_eq, inb_ok hj, inb_ok h1, ckb_true, toNat_cast, gl_eq hj, gl_eq h1, s_l2Less_eq hcj hc, ob_some, prevO, List.getElem?_eq_getElem hj, Bool.true_and]
          cases decide (num h[j] < num h[j + 1]) with
          | false => simp
          | true => simpa using hnext
    · have e2 : decide ((i : Int) ≤ 27) = false := decide_eq_false (by omega)
      have e3 : decide ((h.length : Int) ≤ 27) = false := decide_eq_false (by omega)
      have e4 : decide (h.length ≤ 27) = false := decide_eq_false (by omega)
      have e1 : decide ((i : Int) < (h.length : Int)) = true := decide_eq_true (by omega)
      simp only [e1, e2, e3, e4, br_true, br_false, ob_some, Bool.and_false]
  · have e1 : decide ((i : Int) < (h.length : Int)) = false := decide_eq_false (by omega)
    have e2 : decide ((h.length : Int) ≤ 27) = decide (h.length ≤ 27) := by congr 1; apply propext; omega
    rw [List.drop_eq_nil_of_le (by omega)]
    simp only [e1, e2, br_false, ob_some, handP, Bool.true_and]
theorem i_IsHand_eq {n : Nat} (hn : BIG ≤ n) {h : List Card} (hl : h.length ≤ 9223372036854775807) : i_IsHand n h = some (hand h) := by
  unfold i_IsHand hand
  refine fx_cnt (B := i_IsHand_L1 n) h.length (fun i => (h, h, (h.length : Int), (i : Int))) (fun i => ∀ q, prevO h i = some q → isC q = true) (fun i => some (handP (prevO h i) (h.drop i) && decide (h.length ≤ 27))) ?_ n 0 (Nat.zero_le _) (fun q hq => by cases hq) (big_gt hn (by omega))
  intro self i hi hI hself
  simp only [i_IsHand_L1]
  by_cases h1 : i < h.length
  · rw [drop_cons h1, handP_cons]
    have e1 : decide ((i : Int) < (h.length : Int)) = true := decide_eq_true (by omega)
    simp only [e1, br_true, ob_some, inb_ok h1, ckb_true, toNat_cast, gl_eq h1, i_IsCard_eq hn]
    cases hc : isC h[i] with
    | false => simp
    | true =>
      have hnext : self (h, h, (h.length : Int), w64 ((i : Int) + 1)) = some (handP (some h[i]) (h.drop (i + 1)) && decide (h.length ≤ 27)) := by
        rw [w64_succ (by omega), hself h1 fun q hq => by
          simp only [prevO] at hq
          rw [List.getElem?_eq_getElem h1] at hq; injection hq with hq; subst hq; exact hc]
        simp only [prevO, List.getElem?_eq_getElem h1]
      cases i with
      | zero => simpa [prevO] using hnext
      | succ j =>
        have hj : j < h.length := by omega
        have hcj := hI h[j] (by simp only [prevO]; exact List.getElem?_eq_getElem hj)
        have e3 : decide ((0 : Int) < ((j + 1 : Nat) : Int)) = true := decide_eq_true (by omega)
        have e4 : w64 (((j + 1 : Nat) : Int) - 1) = (j : Int) := by rw [w64_id (by omega)]; omega
        simp only [e3, e4, br_true, br_false, Bool.not_true, lt_eq, inb_ok hj, ckb_true, toNat_cast, gl_eq hj, gl_eq h1, i_number_eq hn hcj, i_number_eq hn hc, ob_some, prevO, List.getElem?_eq_getElem hj, Bool.true_and]
        by_cases hlt : num h[j] < num h[j + 1]
        · have e5 : decide (num h[j + 1] ≤ num h[j]) = false := decide_eq_false (by omega)
          simp only [e5, decide_eq_true hlt, br_false, Bool.true_and]; exact hnext
        · have e5 : decide (num h[j + 1] ≤ num h[j]) = true := decide_eq_true (by omega)
          simp [e5, hlt]
  · have e1 : decide ((i : Int) < (h.length : Int)) = false := decide_eq_false (by omega)
    have e2 : decide ((h.length : Int) ≤ 27) = decide (h.length ≤ 27) := by congr 1; apply propext; omega
    rw [List.drop_eq_nil_of_le (by omega)]
    simp only [e1, e2, br_false, ob_some, handP, Bool.true_and]
theorem hand_len {h : List Card} (hh : hand h = true) : h.length ≤ 27 := by
  unfold hand at hh
  rw [Bool.and_eq_true] at hh
  exact of_decide_eq_true hh.2
theorem handP_all : ∀ {p : Option Card} {l : List Card}, handP p l = true → ∀ c ∈ l, isC c = true
  | p, c :: l, h, d, hd => by
    rw [handP_cons, Bool.and_eq_true, Bool.and_eq_true] at h
    rcases List.mem_cons.1 hd with rfl | hd
    · exact h.1.1
    · exact handP_all h.2 d hd
theorem hand_all {h : List Card} (hh : hand h = true) : ∀ c ∈ h, isC c = true := by
  unfold hand at hh
  rw [Bool.and_eq_true] at hh
  exact handP_all hh.1
theorem s_l2Own_eq {n : Nat} {h : List Card} (hl : h.length ≤ 1048576) : s_l2Own n h = some h := by
  unfold s_l2Own
  rw [apok_ok (by omega) (by omega)]; rfl
theorem slices_Clone_SA4_A4__eq {n : Nat} {h : List Card} (hl : h.length ≤ 1048576) : slices_Clone_SA4_A4_ n h = some h := by
  unfold slices_Clone_SA4_A4_
  refine amb_eq ?_ fun he => ?_
  · rw [apok_ok (by omega) (by omega)]; rfl
  · have : h = [] := by simpa using he
    subst this; rfl
end Go.Pl
namespace Go.Pl
open Go Go.Tv Go.RowKit
def bl (s : ByteArray) : List UInt8 := s.data.toList
theorem bl_len (s : ByteArray) : (bl s).length = s.size := by simp [bl]
theorem sb_eq {s : ByteArray} {k : Nat} (h : k < (bl s).length) : sb s k = ((bl s)[k].toNat : Int) := by
  unfold sb
  have hk : k < s.size := by rw [← bl_len]; exact h
  rw [show s[k]? = some s[k] from getElem?_pos s k hk]
  rfl
theorem sb_bd (s : ByteArray) (k : Nat) : 0 ≤ sb s k ∧ sb s k ≤ 255 := by
  unfold sb
  have := (s[k]?.getD 0).toNat_lt
  omega
def one (c : UInt8) : ByteArray := ⟨#[c]⟩
end Go.Pl
namespace Go.Pl
open Go Go.Tv Go.RowKit
def mk (l : List UInt8) : ByteArray := ⟨l.toArray⟩
@[simp] theorem bl_mk (l : List UInt8) : bl (mk l) = l := by simp [bl, mk]
@[simp] theorem mk_bl (s : ByteArray) : mk (bl s) = s := by simp [bl, mk]
theorem bl_inj {a b : ByteArray} (h : bl a = bl b) : a = b := by rw [← mk_bl a, ← mk_bl b, h]
@[simp] theorem bl_app (a b : ByteArray) : bl (a ++ b) = bl a ++ bl b := by
  simp [bl, ByteArray.data_append]
@[simp] theorem mk_size (l : List UInt8) : (mk l).size = l.length := by rw [← bl_len, bl_mk]
theorem app_size (a b : ByteArray) : (a ++ b).size = a.size + b.size := by rw [← bl_len, bl_app, List.length_append, bl_len, bl_len]
theorem eqd_str (a b : ByteArray) : eqd a b = decide (a = b) := rfl
theorem stok_ok {k : Nat} (h : k ≤ 1125899906842624) : stok k = true := decide_eq_true (by unfold maxLen; omega)
theorem bl_ssub (s : ByteArray) (lo hi : Nat) : bl (ssub s lo hi) = ((bl s).drop lo).take (hi - lo) := by
  unfold ssub bl
  rw [ByteArray.data_extract]
  simp
end Go.Pl
namespace Go.Pl
open Go Go.Tv Go.RowKit
def bef (c : UInt8) : List UInt8 → List UInt8
  | [] => []
  | b :: l => if b = c then [] else b :: bef c l
def aft (c : UInt8) : List UInt8 → List UInt8
  | [] => []
  | b :: l => if b = c then l else aft c l
theorem bef_app {c : UInt8} : ∀ {p : List UInt8} (q : List UInt8), c ∉ p → bef c (p ++ q) = p ++ bef c q
  | [], q, _ => rfl
  | b :: p, q, h => by
    simp only [List.mem_cons, not_or] at h
    rw [List.cons_append, bef, if_neg (fun e => h.1 e.symm), bef_app q h.2]; rfl
@[simp] theorem bef_self {c : UInt8} (q : List UInt8) : bef c (c :: q) = [] := by simp [bef]
@[simp] theorem aft_self {c : UInt8} (q : List UInt8) : aft c (c :: q) = q := by simp [aft]
theorem bef_no {c : UInt8} {l : List UInt8} (h : c ∉ l) : bef c l = l := by
  have := bef_app [] h
  simpa [bef] using this
theorem not_bef {c : UInt8} : ∀ {l : List UInt8}, c ∉ bef c l
  | [] => by simp [bef]
  | b :: l => by
    unfold bef
    split
    · simp
    · rename_i h
      simp only [List.mem_cons, not_or]
      exact ⟨fun e => h e.symm, not_bef⟩
theorem cut_eq {c : UInt8} : ∀ {l : List UInt8}, c ∈ l → l = bef c l ++ c :: aft c l
  | [], h => by cases h
  | b :: l, h => by
    unfold bef aft
    by_cases hb : b = c
    · rw [if_pos hb, if_pos hb, hb]; rfl
    · rw [if_neg hb, if_neg hb]
      have : c ∈ l := by
        rcases List.mem_cons.1 h with h | h
        · exact absurd h.symm hb
        · exact h
      rw [List.cons_append, ← cut_eq this]
theorem indexByte_eq {c : UInt8} : ∀ (l : List UInt8), Lib.indexByte l c = if c ∈ l then ((bef c l).length : Int) else -1
  | [] => by simp [Lib.indexByte]
  | b :: l => by
    unfold Lib.indexByte bef
    by_cases hb : b = c
    · subst hb; simp
    · have e1 : (b == c) = false := by simpa using hb
      rw [e1]
      simp only [Bool.false_eq_true, if_false, if_neg hb]
      rw [indexByte_eq l]
      by_cases hc : c ∈ l
      · have e2 : (((bef c l).length : Int) == -1) = false := beq_eq_false_iff_ne.2 (by omega)
        have hc2 : c ∈ b :: l := List.mem_cons_of_mem _ hc
        rw [if_pos hc, e2, if_pos hc2]
        simp only [Bool.false_eq_true, if_false, List.length_cons]
        omega
      · have hc2 : ¬ (c ∈ b :: l) := by simp only [List.mem_cons, not_or]; exact ⟨fun e => hb e.symm, hc⟩
        rw [if_neg hc, if_neg hc2]
        rfl
theorem index_at {n : Nat} (s : ByteArray) (c : UInt8) : internal_stringslite_Index_s n s (one c) = some (if c ∈ bl s then ((bef c (bl s)).length : Int) else -1) := by
  unfold internal_stringslite_Index_s
  have e1 : decide (((one c).size : Int) = 0) = false := rfl
  have e2 : decide (((one c).size : Int) = 1) = true := rfl
  have e3 : inb 0 (one c).size = true := rfl
  have e4 : sb (one c) 0 = (c.toNat : Int) := rfl
  have e5 : ((c.toNat : Int).toNat).toUInt8 = c := by simp
  have e6 : ∀ m, internal_stringslite_IndexByte m s (sb (one c) 0) = some (Lib.indexByte (bl s) c) := fun m => by
    unfold internal_stringslite_IndexByte x_IndexByteString
    rw [e4, e5]; rfl
  rw [← indexByte_eq]
  by_cases hs : one c = s
  · have : Lib.indexByte (bl s) c = 0 := by
      rw [← hs]
      show Lib.indexByte [c] c = 0
      unfold Lib.indexByte
      simp
    simp [e1, eqd, hs, br_self, this]
  · have : eqd (one c) s = false := by simp [eqd, hs]
    simp only [e1, br_false, this, ob_some, e2, br_true, e3, ckb_true, e6]
theorem ssub_bef {s : ByteArray} {c : UInt8} (h : c ∈ bl s) : ssub s 0 (bef c (bl s)).length = mk (bef c (bl s)) := by
  refine bl_inj ?_
  rw [bl_ssub, bl_mk, List.drop_zero, Nat.sub_zero]
  have e := cut_eq h
  generalize bef c (bl s) = x at *
  rw [e]
  exact List.take_left' rfl
theorem ssub_aft {s : ByteArray} {c : UInt8} (h : c ∈ bl s) : ssub s ((bef c (bl s)).length + 1) s.size = mk (aft c (bl s)) := by
  refine bl_inj ?_
  rw [bl_ssub, bl_mk]
  have e := cut_eq h
  have hl : (bl s).length = (bef c (bl s)).length + 1 + (aft c (bl s)).length := by
    conv => lhs; rw [e]
    simp only [List.length_append, List.length_cons]; omega
  have e2 : (bl s).drop ((bef c (bl s)).length + 1) = aft c (bl s) := by
    generalize bef c (bl s) = x at *
    generalize aft c (bl s) = y at *
    rw [e, show x ++ c :: y = (x ++ [c]) ++ y by simp]
    exact List.drop_left' (by simp)
  rw [e2, ← bl_len, hl]
  exact List.take_of_length_le (by omega)
def splitL (c : UInt8) : List UInt8 → List (List UInt8)
  | [] => [[]]
  | b :: l => if b = c then [] :: splitL c l else match splitL c l with
    | h :: t => (b :: h) :: t
    | [] => [[b]]
theorem splitL_cons (c : UInt8) : ∀ (l : List UInt8), ∃ t, splitL c l = bef c l :: t ∧ (t = [] ↔ c ∉ l)
  | [] => ⟨[], rfl, by simp⟩
  | b :: l => by
    unfold splitL bef
    by_cases hb : b = c
    · rw [if_pos hb, if_pos hb]
      obtain ⟨t, h1, _⟩ := splitL_cons c l
      exact ⟨_, rfl, by rw [h1]; simp [hb]⟩
    · rw [if_neg hb, if_neg hb]
      obtain ⟨t, h1, h2⟩ := splitL_cons c l
      rw [h1]
      exact ⟨t, rfl, by rw [h2]; simp only [List.mem_cons, not_or]; exact ⟨fun h => ⟨fun e => hb e.symm, h⟩, fun h => h.2⟩⟩
theorem splitL_pre {c : UInt8} : ∀ {p : List UInt8} (q : List UInt8), c ∉ p → splitL c (p ++ c :: q) = p :: splitL c q
  | [], q, _ => by simp [splitL]
  | b :: p, q, h => by
    simp only [List.mem_cons, not_or] at h
    rw [List.cons_append, splitL, if_neg (fun e => h.1 e.symm), splitL_pre q h.2]
theorem splitL_no {c : UInt8} {p : List UInt8} (h : c ∉ p) : splitL c p = [p] := by
  obtain ⟨t, h1, h2⟩ := splitL_cons c p
  rw [h1, h2.2 h, bef_no h]
theorem splitL_len (c : UInt8) : ∀ (l : List UInt8), (splitL c l).length ≤ l.length + 1
  | [] => by simp [splitL]
  | b :: l => by
    have := splitL_len c l
    unfold splitL
    split
    · simpa using this
    · obtain ⟨t, h1, _⟩ := splitL_cons c l
      rw [h1] at this ⊢
      simp at this ⊢; omega
theorem take_drop_snoc {l : List UInt8} {i k : Nat} (hi : i ≤ k) (hk : k < l.length) : (l.drop i).take (k + 1 - i) = (l.drop i).take (k - i) ++ [l[k]] := by
  rw [show k + 1 - i = (k - i) + 1 by omega, List.take_add_one, List.getElem?_drop, show i + (k - i) = k by omega, List.getElem?_eq_getElem hk]; rfl
theorem split_R {n : Nat} {s : ByteArray} (hs : s.size ≤ 1000000) {c : UInt8} : ∀ (m k i : Nat) (out : List ByteArray) (fu : Nat), (bl s).length = k + m → i ≤ k → c ∉ ((bl s).drop i).take (k - i) → out.length ≤ k → m < fu →
    fx (s_l1Split_L1 n) fu (s, (c.toNat : Int), (i : Int), (k : Int), out) = some (out ++ (splitL c ((bl s).drop i)).map mk) := by
  have hlb := bl_len s
  intro m
  induction m with
  | zero =>
    intro k i out fu hl hi hc ho hf
    obtain ⟨fu, rfl⟩ : ∃ j, fu = j + 1 := ⟨fu - 1, by omega⟩
    rw [fx_succ]
    generalize fx (s_l1Split_L1 n) fu = g
    unfold s_l1Split_L1
    dsimp only
    rw [decide_eq_false (by omega), br_false, ckb_pos (slb_ok (by omega) (by omega) (by omega)), ckb_pos (apok_ok (by omega) (by omega)), toNat_cast]
    rw [List.take_of_length_le (by rw [List.length_drop]; omega)] at hc
    rw [splitL_no hc]
    refine congrArg some (congrArg (out ++ ·) (congrArg (fun x => [x]) (bl_inj ?_)))
    rw [bl_ssub, bl_mk]
    exact List.take_of_length_le (by rw [List.length_drop]; omega)
  | succ m ih =>
    intro k i out fu hl hi hc ho hf
    obtain ⟨fu, rfl⟩ : ∃ j, fu = j + 1 := ⟨fu - 1, by omega⟩
    have hk : k < (bl s).length := by omega
    rw [fx_succ]
    have H := fun i out h1 h2 h3 => ih (k + 1) i out fu (by omega) h1 h2 h3 (by omega)
    generalize fx (s_l1Split_L1 n) fu = g at H
    unfold s_l1Split_L1
    dsimp only
    have e1 := w64_succ (k := k) (by omega)
    rw [decide_eq_true (by omega : (k : Int) < (s.size : Int)), br_true, ckb_pos (inb_ok (by omega)), toNat_cast, toNat_cast, sb_eq hk]
    simp only [lt_eq, e1]
    by_cases hb : (bl s)[k] = c
    · rw [decide_eq_true (by rw [hb]), br_true, ckb_pos (slb_ok (by omega) (by omega) (by omega)), ckb_pos (apok_ok (by omega) (by omega)),
        H (k + 1) _ (Nat.le_refl _) (by simp) (by rw [List.length_append, List.length_singleton]; omega)]
      have hsp : (bl s).drop i = ((bl s).drop i).take (k - i) ++ c :: (bl s).drop (k + 1) := by
        conv => lhs; rw [← List.take_append_drop (k - i) ((bl s).drop i)]
        rw [List.drop_drop, show i + (k - i) = k by omega, List.drop_eq_getElem_cons hk, hb]
      have e2 : splitL c ((bl s).drop i) = ((bl s).drop i).take (k - i) :: splitL c ((bl s).drop (k + 1)) := by
        conv => lhs; rw [hsp]
        exact splitL_pre _ hc
      rw [e2, List.map_cons, List.append_assoc]
      refine congrArg some (congrArg (out ++ ·) ?_)
      rw [List.singleton_append]
      congr 1
      exact bl_inj (by rw [bl_ssub, bl_mk])
    · have hne : ¬ (((bl s)[k].toNat : Int) = (c.toNat : Int)) := fun e => hb (UInt8.toNat_inj.1 (by omega))
      rw [decide_eq_false hne, br_false, H i out (by omega) (by
        rw [take_drop_snoc hi hk, List.mem_append, List.mem_singleton, not_or]
        exact ⟨hc, fun e => hb e.symm⟩) (by omega)]
theorem s_l1Split_eq {n : Nat} (hn : BIG ≤ n) {s : ByteArray} (hs : s.size ≤ 1000000) (c : UInt8) : s_l1Split n s (c.toNat : Int) = some ((splitL c (bl s)).map mk) := by
  unfold s_l1Split
  have := split_R (n := n) hs (c := c) (bl s).length 0 0 [] n (by omega) (Nat.le_refl _) (by simp) (by simp) (big_gt hn (by rw [bl_len]; omega))
  simpa using this
end Go.Pl
namespace Go.Pl
open Go Go.Tv Go.RowKit
def t3 (x y : Int) : Int := Int.tmod (6 - x - y) 3
def third (a b : Card) : Card := ⟨t3 a.x0 b.x0, t3 a.x1 b.x1, t3 a.x2 b.x2, t3 a.x3 b.x3⟩
theorem t3_in {x y : Int} (hx : 0 ≤ x ∧ x ≤ 2) (hy : 0 ≤ y ∧ y ≤ 2) : 0 ≤ t3 x y ∧ t3 x y ≤ 2 := by
  unfold t3
  rw [Int.tmod_eq_emod_of_nonneg (by omega)]; omega
theorem third_isC {a b : Card} (ha : isC a = true) (hb : isC b = true) : isC (third a b) = true := by
  rw [isC_iff] at ha hb ⊢
  exact ⟨t3_in ha.1 hb.1, t3_in ha.2.1 hb.2.1, t3_in ha.2.2.1 hb.2.2.1, t3_in ha.2.2.2 hb.2.2.2⟩
theorem s_l2Third_eq {n : Nat} (hn : BIG ≤ n) {a b : Card} (ha : isC a = true) (hb : isC b = true) : s_l2Third n a b = some (third a b) := by
  obtain ⟨m, rfl⟩ : ∃ m, n = m + 5 := ⟨n - 5, by unfold BIG at hn; omega⟩
  rw [isC_iff] at ha hb
  unfold s_l2Third
  simp only [lt_eq, fx_succ, s_l2Third_L1]
  simp [inb, V4.get, V4.set]
  rw [w64_id (x := 6 - a.x0) (by omega), w64_id (x := 6 - a.x1) (by omega), w64_id (x := 6 - a.x2) (by omega), w64_id (x := 6 - a.x3) (by omega),
    w64_id (x := 6 - a.x0 - b.x0) (by omega), w64_id (x := 6 - a.x1 - b.x1) (by omega), w64_id (x := 6 - a.x2 - b.x2) (by omega), w64_id (x := 6 - a.x3 - b.x3) (by omega)]
  rfl
theorem i_third_eq {n : Nat} (hn : BIG ≤ n) {a b : Card} (ha : isC a = true) (hb : isC b = true) : i_third n a b = some (third a b) := by
  have h := s_l2Third_eq hn ha hb
  rw [← h]; rfl
def lineB (a b c : Card) : Bool := !decide (a = b) && decide (third a b = c)
theorem s_l2Line_eq {n : Nat} (hn : BIG ≤ n) {a b : Card} (c : Card) (ha : isC a = true) (hb : isC b = true) : s_l2Line n a b c = some (lineB a b c) := by
  unfold s_l2Line lineB
  rw [s_l2Third_eq hn ha hb]
  by_cases h : a = b <;> simp [eqd, h]
theorem i_isLine_eq {n : Nat} (hn : BIG ≤ n) {a b : Card} (c : Card) (ha : isC a = true) (hb : isC b = true) : i_isLine n a b c = some (lineB a b c) := by
  unfold i_isLine lineB
  rw [i_third_eq hn ha hb]
  by_cases h : a = b <;> simp [eqd, h]
end Go.Pl

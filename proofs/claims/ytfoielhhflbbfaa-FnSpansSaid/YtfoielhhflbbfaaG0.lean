/- Plain laws: LP0, L2, L4, L2b, LSo1. -/
import Derived.Test.YtfoielhhflbbfaaZ0
import Derived.OpenShut
import Derived.Test.YtfoielhhflbbfaaPL
set_option linter.unusedVariables false
set_option linter.unusedSimpArgs false
namespace Go.Pl
open Go Go.Tv Go.RowKit
theorem w64_id {x : Int} (h : -9223372036854775808 ≤ x ∧ x ≤ 9223372036854775807) : w64 x = x := by
  unfold w64
  simp only [IntKind.wrap, IntKind.bits, IntKind.signed]
  simp
  omega
@[simp] theorem lt_eq {α β : Type} (a : α) (k : α → Opt β) : Tv.lt a k = k a := rfl
@[simp] theorem ob_some {α β : Type} (a : α) (k : α → Opt β) : ob (some a) k = k a := rfl
@[simp] theorem br_true {β : Type} (x y : Opt β) : br true x y = x := rfl
@[simp] theorem br_false {β : Type} (x y : Opt β) : br false x y = y := rfl
@[simp] theorem ckb_true {β : Type} (k : Opt β) : ckb true k = k := rfl
@[simp] theorem jn_eq {σ β : Type} (rest : σ → Opt β) (body : (σ → Opt β) → Opt β) : jn rest body = body rest := rfl
theorem br_dec {β : Type} {p : Prop} [Decidable p] (x y : Opt β) : br (decide p) x y = if p then x else y := by
  by_cases h : p <;> simp [h, br]
theorem br_some {α : Type} (c : Bool) (x y : α) : br c (some x) (some y) = some (if c = true then x else y) := by cases c <;> rfl
theorem br_pos {β : Type} {c : Bool} (h : c = true) (x y : Opt β) : br c x y = x := by rw [h]; rfl
theorem br_neg {β : Type} {c : Bool} (h : c = false) (x y : Opt β) : br c x y = y := by rw [h]; rfl
theorem ckb_pos {β : Type} {c : Bool} (h : c = true) (k : Opt β) : ckb c k = k := by rw [h]; rfl
theorem fx_succ {σ ρ : Type} (f : (σ → Opt ρ) → σ → Opt ρ) (n : Nat) (s : σ) : fx f (n + 1) s = f (fx f n) s := rfl
theorem inb_pos {i : Int} {n : Nat} (h0 : 0 ≤ i) (h : i < n) : inb i n = true := decide_eq_true ⟨h0, h⟩
theorem inb_ok {i n : Nat} (h : i < n) : inb (i : Int) n = true := decide_eq_true ⟨by omega, by omega⟩
theorem slb_ok {lo hi : Int} {n : Nat} (h0 : 0 ≤ lo) (h1 : lo ≤ hi) (h2 : hi ≤ n) : slb lo hi n = true := decide_eq_true ⟨h0, h1, h2⟩
theorem apok_ok {b n : Nat} (h : n * b ≤ 140737488355328) (h2 : n ≤ 1125899906842624) : apok b n = true := decide_eq_true ⟨h, by unfold maxLen; omega⟩
theorem gl_eq {α : Type} {d : α} {l : List α} {k : Nat} (h : k < l.length) : gl d l k = l[k] := by
  rw [gl, List.getD_eq_getElem?_getD, List.getElem?_eq_getElem h]; rfl
@[simp] theorem toNat_cast (k : Nat) : ((k : Nat) : Int).toNat = k := rfl
@[simp] theorem w64_0 : w64 0 = 0 := by decide
@[simp] theorem w64_1 : w64 1 = 1 := by decide
@[simp] theorem w64_2 : w64 2 = 2 := by decide
@[simp] theorem w64_3 : w64 3 = 3 := by decide
@[simp] theorem w64_4 : w64 4 = 4 := by decide
@[simp] theorem w64_5 : w64 5 = 5 := by decide
@[simp] theorem w64_6 : w64 6 = 6 := by decide
@[simp] theorem w64_7 : w64 7 = 7 := by decide
@[simp] theorem w64_8 : w64 8 = 8 := by decide
@[simp] theorem w64_m1 : w64 (-1) = -1 := by decide
theorem w64_succ {k : Nat} (h : k < 9223372036854775807) : w64 ((k : Int) + 1) = ((k + 1 : Nat) : Int) := by rw [w64_id (by omega)]; omega
theorem amb_eq {β : Type} {e : Bool} {f : Bool → Opt β} {r : Opt β} (h0 : f false = r) (h1 : e = true → f true = r) : amb e f = r := by
  unfold amb
  cases e with
  | false => exact h0
  | true => simp only [h0, h1 rfl, if_true]
def BIG : Nat := 1208925819614629174706176
theorem big_gt {n m : Nat} (h : BIG ≤ n) (h2 : m < 1208925819614629174706176) : m < n := Nat.lt_of_lt_of_le h2 h
theorem fx_up {σ ρ α : Type} {B : (σ → Opt ρ) → σ → Opt ρ} (N : Nat) (st : Nat → α → σ) (I : Nat → α → Prop) (F : Nat → α → Opt ρ)
    (step : ∀ self i a, i ≤ N → I i a → (∀ a', i < N → I (i + 1) a' → self (st (i + 1) a') = F (i + 1) a') → B self (st i a) = F i a) : ∀ k i a, i ≤ N → I i a → N - i < k → fx B k (st i a) = F i a
  | 0, _, _, _, _, h => by omega
  | k + 1, i, a, hi, hI, h => by
    rw [fx_succ]
    exact step _ i a hi hI fun a' hlt hI' => fx_up N st I F step k (i + 1) a' (by omega) hI' (by omega)
theorem fx_cnt {σ ρ : Type} {B : (σ → Opt ρ) → σ → Opt ρ} (N : Nat) (st : Nat → σ) (I : Nat → Prop) (F : Nat → Opt ρ)
    (step : ∀ self i, i ≤ N → I i → (i < N → I (i + 1) → self (st (i + 1)) = F (i + 1)) → B self (st i) = F i) : ∀ k i, i ≤ N → I i → N - i < k → fx B k (st i) = F i
  | 0, _, _, _, h => by omega
  | k + 1, i, hi, hI, h => by
    rw [fx_succ]
    exact step _ i hi hI fun hlt hI' => fx_cnt N st I F step k (i + 1) (by omega) hI' (by omega)
theorem range'_cons {i N : Nat} (h : i < N) : List.range' i (N - i) = i :: List.range' (i + 1) (N - (i + 1)) := by
  obtain ⟨d, hd⟩ : ∃ d, N - i = d + 1 := ⟨N - i - 1, by omega⟩
  rw [hd, List.range'_succ, show N - (i + 1) = d by omega]
theorem range'_nil {i N : Nat} (h : N ≤ i) : List.range' i (N - i) = [] := by rw [show N - i = 0 by omega]; rfl
theorem fx_sum {σ ρ : Type} {B : (σ → Opt ρ) → σ → Opt ρ} (N : Nat) (st : Nat → Int → σ) (g : Nat → Nat) (fin : Int → Opt ρ) (M : Int)
    (step : ∀ self i a, i < N → 0 ≤ a → a + g i ≤ M → B self (st i a) = self (st (i + 1) (a + g i))) (stop : ∀ self a, 0 ≤ a → a ≤ M → B self (st N a) = fin a) :
    ∀ k i a, i ≤ N → N - i < k → 0 ≤ a → a + (((List.range' i (N - i)).map g).sum : Nat) ≤ M → fx B k (st i a) = fin (a + (((List.range' i (N - i)).map g).sum : Nat))
  | 0, _, _, _, h, _, _ => by omega
  | k + 1, i, a, hi, h, h0, hM => by
    rw [fx_succ]
    by_cases hlt : i < N
    · rw [range'_cons hlt, List.map_cons, List.sum_cons] at hM ⊢
      rw [step _ i a hlt h0 (by omega), fx_sum N st g fin M step stop k (i + 1) (a + g i) (by omega) (by omega) (by omega) (by omega)]
      congr 1; omega
    · have : i = N := by omega
      subst this
      rw [range'_nil (Nat.le_refl _)] at hM ⊢
      rw [stop _ _ h0 (by simpa using hM)]; simp
theorem fx_find {σ ρ α : Type} {B : (σ → Opt ρ) → σ → Opt ρ} (l : List α) (st : Nat → σ) (p : α → Bool) (out : Nat → Opt ρ) (fin : Opt ρ)
    (step : ∀ self i (h : i < l.length), B self (st i) = if p l[i] = true then out i else self (st (i + 1))) (stop : ∀ self, B self (st l.length) = fin) (k : Nat) (hk : l.length < k) :
    fx B k (st 0) = match l.findIdx? p with | some i => out i | none => fin := by
  have go : ∀ (k i : Nat), i ≤ l.length → l.length - i < k → fx B k (st i) = match (l.drop i).findIdx? p with | some j => out (i + j) | none => fin := by
    intro k
    induction k with
    | zero => intro i _ h; omega
    | succ k ih =>
      intro i hi h
      rw [fx_succ]
      by_cases hlt : i < l.length
      · rw [step _ i hlt, List.drop_eq_getElem_cons hlt, List.findIdx?_cons]
        by_cases hp : p l[i] = true
        · simp [hp]
        · rw [if_neg hp, ih (i + 1) (by omega) (by omega)]
          simp only [hp, Bool.false_eq_true, if_false]
          cases hq : (l.drop (i + 1)).findIdx? p with
          | none => rfl
          | some j => simp only [Option.map_some]; congr 1; omega
      · have : i = l.length := by omega
        subst this
        rw [stop]; simp
  have := go k 0 (Nat.zero_le _) (by omega)
  simpa using this
theorem findIdx?_any {α : Type} (l : List α) (p : α → Bool) : (l.findIdx? p).isSome = l.any p := List.findIdx?_isSome
theorem fx_foldl {σ ρ α β : Type} {B : (σ → Opt ρ) → σ → Opt ρ} (l : List β) (st : Nat → α → σ) (op : α → β → α) (fin : α → Opt ρ) (I : Nat → α → Prop) (hI : ∀ i a (h : i < l.length), I i a → I (i + 1) (op a l[i]))
    (step : ∀ self i a (h : i < l.length), I i a → B self (st i a) = self (st (i + 1) (op a l[i]))) (stop : ∀ self a, I l.length a → B self (st l.length a) = fin a) (k : Nat) (hk : l.length < k) (a : α) (h0 : I 0 a) :
    fx B k (st 0 a) = fin (l.foldl op a) := by
  have go : ∀ (k i : Nat) (a : α), i ≤ l.length → l.length - i < k → I i a → fx B k (st i a) = fin ((l.drop i).foldl op a) := by
    intro k
    induction k with
    | zero => intro i _ _ h; omega
    | succ k ih =>
      intro i a hi h ha
      rw [fx_succ]
      by_cases hlt : i < l.length
      · rw [step _ i a hlt ha, List.drop_eq_getElem_cons hlt, List.foldl_cons, ih (i + 1) _ (by omega) (by omega) (hI i a hlt ha)]
      · have : i = l.length := by omega
        subst this
        rw [stop _ _ ha]; simp
  have := go k 0 a (Nat.zero_le _) (by omega) h0
  simpa using this
theorem drop_cons {α : Type} {l : List α} {i : Nat} (h : i < l.length) : l.drop i = l[i] :: l.drop (i + 1) := List.drop_eq_getElem_cons h
theorem take_snoc {α : Type} {l : List α} {i : Nat} (h : i < l.length) : l.take (i + 1) = l.take i ++ [l[i]] := by rw [List.take_add_one, List.getElem?_eq_getElem h]; rfl
end Go.Pl
namespace Go.Pl
open Go Go.Tv Go.RowKit
abbrev Card := V4 Int
def in3 (x : Int) : Bool := decide (0 ≤ x ∧ x ≤ 2)
def isC (c : Card) : Bool := in3 c.x0 && in3 c.x1 && in3 c.x2 && in3 c.x3
def num (c : Card) : Int := 27 * c.x0 + 9 * c.x1 + 3 * c.x2 + c.x3
theorem in3_iff {x : Int} : in3 x = true ↔ 0 ≤ x ∧ x ≤ 2 := by unfold in3; exact decide_eq_true_iff
theorem isC_iff {c : Card} : isC c = true ↔ (0 ≤ c.x0 ∧ c.x0 ≤ 2) ∧ (0 ≤ c.x1 ∧ c.x1 ≤ 2) ∧ (0 ≤ c.x2 ∧ c.x2 ≤ 2) ∧ 0 ≤ c.x3 ∧ c.x3 ≤ 2 := by
  unfold isC; simp only [Bool.and_eq_true, in3_iff, and_assoc]
theorem num_bd {c : Card} (h : isC c = true) : 0 ≤ num c ∧ num c ≤ 80 := by
  rw [isC_iff] at h; unfold num; omega
theorem s_l1In_eq (n : Nat) (x a b : Int) : s_l1In n x a b = some (decide (a ≤ x ∧ x ≤ b)) := by
  unfold s_l1In
  by_cases h : a ≤ x <;> simp [h]
theorem i_within_eq (n : Nat) (x a b : Int) : i_within n x a b = some (decide (a ≤ x ∧ x ≤ b)) := by
  unfold i_within
  by_cases h : a ≤ x <;> simp [h]
theorem s_l1In_3 (n : Nat) (x : Int) : s_l1In n x 0 2 = some (in3 x) := s_l1In_eq n x 0 2
theorem i_within_3 (n : Nat) (x : Int) : i_within n x 0 2 = some (in3 x) := i_within_eq n x 0 2
theorem s_l2Card_eq {n : Nat} (hn : BIG ≤ n) (c : Card) : s_l2Card n c = some (isC c) := by
  obtain ⟨m, rfl⟩ : ∃ m, n = m + 5 := ⟨n - 5, by unfold BIG at hn; omega⟩
  unfold s_l2Card isC
  simp only [fx_succ, s_l2Card_L1, s_l1In_3, ob_some]
  simp only [inb, V4.get]
  cases h0 : in3 c.x0 <;> cases h1 : in3 c.x1 <;> cases h2 : in3 c.x2 <;> cases h3 : in3 c.x3 <;> simp [h0, h1, h2, h3]
theorem i_IsCard_eq {n : Nat} (hn : BIG ≤ n) (c : Card) : i_IsCard n c = some (isC c) := by
  obtain ⟨m, rfl⟩ : ∃ m, n = m + 5 := ⟨n - 5, by unfold BIG at hn; omega⟩
  unfold i_IsCard i_allWithin slices_ContainsFunc_Sint_int_'l_i_allWithin_1pp slices_IndexFunc_Sint_int_'l_i_allWithin_1pp isC
  simp only [fx_succ, slices_IndexFunc_Sint_int_'l_i_allWithin_1pp_L1, i_allWithin_1'pp, i_within_3, ob_some]
  simp only [inb, V4.els, gl]
  cases h0 : in3 c.x0 <;> cases h1 : in3 c.x1 <;> cases h2 : in3 c.x2 <;> cases h3 : in3 c.x3 <;> simp [h0, h1, h2, h3, i_within_3]
theorem s_l2Number_eq {n : Nat} {c : Card} (h : isC c = true) : s_l2Number n c = some (num c) := by
  rw [isC_iff] at h
  unfold s_l2Number num
  simp only [lt_eq]
  rw [w64_id (x := 27 * c.x0) (by omega), w64_id (x := 9 * c.x1) (by omega), w64_id (x := 3 * c.x2) (by omega), w64_id (x := 27 * c.x0 + 9 * c.x1) (by omega), w64_id (x := 27 * c.x0 + 9 * c.x1 + 3 * c.x2) (by omega), w64_id (by omega)]
theorem i_number_eq {n : Nat} (hn : BIG ≤ n) {c : Card} (h : isC c = true) : i_number n c = some (num c) := by
  obtain ⟨m, rfl⟩ : ∃ m, n = m + 5 := ⟨n - 5, by unfold BIG at hn; omega⟩
  rw [isC_iff] at h
  unfold i_number num
  simp only [fx_succ, i_number_L1, lt_eq]
  simp only [inb, V4.get]
  simp
  rw [w64_id (x := c.x0) (by omega), w64_id (x := 3 * c.x0) (by omega), w64_id (x := 3 * c.x0 + c.x1) (by omega), w64_id (x := 3 * (3 * c.x0 + c.x1)) (by omega), w64_id (x := 3 * (3 * c.x0 + c.x1) + c.x2) (by omega), w64_id (x := 3 * (3 * (3 * c.x0 + c.x1) + c.x2)) (by omega), w64_id (by omega)]
  omega
def handP : Option Card → List Card → Bool
  | _, [] => true
  | p, c :: l => isC c && (match p with | none => true | some q => decide (num q < num c)) && handP (some c) l
def hand (h : List Card) : Bool := handP none h && decide (h.length ≤ 27)
def prevO (h : List Card) : Nat → Option Card
  | 0 => none
  | i + 1 => h[i]?
theorem handP_cons {p : Option Card} {c : Card} {l : List Card} : handP p (c :: l) = (isC c && (match p with | none => true | some q => decide (num q < num c)) && handP (some c) l) := rfl
theorem s_l2Less_eq {n : Nat} {a b : Card} (ha : isC a = true) (hb : isC b = true) : s_l2Less n a b = some (decide (num a < num b)) := by
  unfold s_l2Less
  rw [s_l2Number_eq ha, s_l2Number_eq hb]; rfl
theorem s_l2Hand_eq {n : Nat} (hn : BIG ≤ n) {h : List Card} (hl : h.length ≤ 9223372036854775807) : s_l2Hand n h = some (hand h) := by
  unfold s_l2Hand hand
  refine fx_cnt (B := s_l2Hand_L1 n) h.length (fun i => (h, (i : Int))) (fun i => ∀ q, prevO h i = some q → isC q = true) (fun i => some (handP (prevO h i) (h.drop i) && decide (h.length ≤ 27))) ?_ n 0 (Nat.zero_le _) (fun q hq => by cases hq) (big_gt hn (by omega))
  intro self i hi hI hself
  simp only [s_l2Hand_L1]
  by_cases h1 : i < h.length
  · rw [drop_cons h1, handP_cons]
    by_cases h2 : i ≤ 27
    · have e1 : decide ((i : Int) < (h.length : Int)) = true := decide_eq_true (by omega)
      have e2 : decide ((i : Int) ≤ 27) = true := decide_eq_true (by omega)
      simp only [e1, e2, br_true, ob_some, inb_ok h1, ckb_true, toNat_cast, gl_eq h1, s_l2Card_eq hn]
      cases hc : isC h[i] with
      | false => simp
      | true =>
        have hnext : self (h, w64 ((i : Int) + 1)) = some (handP (some h[i]) (h.drop (i + 1)) && decide (h.length ≤ 27)) := by
          rw [w64_succ (by omega), hself h1 fun q hq => by
            simp only [prevO] at hq
            rw [List.getElem?_eq_getElem h1] at hq; injection hq with hq; subst hq; exact hc]
          simp only [prevO, List.getElem?_eq_getElem h1]
        cases i with
        | zero => simpa [prevO] using hnext
        | succ j =>
          have hj : j < h.length := by omega
          have hcj := hI h[j] (by simp only [prevO]; exact List.getElem?_eq_getElem hj)
          have e3 : decide ((0 : Int) < ((j + 1 : Nat) : Int)) = true := decide_eq_true (by omega)
          have e4 : w64 (((j + 1 : Nat) : Int) - 1) = (j : Int) := by rw [w64_id (by omega)]; omega
          simp only [e3, e4, br_true, br_false, Bool.not_true, lt_eq, inb_ok hj, inb_ok h1, ckb_true, toNat_cast, gl_eq hj, gl_eq h1, s_l2Less_eq hcj hc, ob_some, prevO, List.getElem?_eq_getElem hj, Bool.true_and]
          cases decide (num h[j] < num h[j + 1]) with
          | false => simp
          | true => simpa using hnext
    · have e2 : decide ((i : Int) ≤ 27) = false := decide_eq_false (by omega)
      have e3 : decide ((h.length : Int) ≤ 27) = false := decide_eq_false (by omega)
      have e4 : decide (h.length ≤ 27) = false := decide_eq_false (by omega)
      have e1 : decide ((i : Int) < (h.length : Int)) = true := decide_eq_true (by omega)
      simp only [e1, e2, e3, e4, br_true, br_false, ob_some, Bool.and_false]
  · have e1 : decide ((i : Int) < (h.length : Int)) = false := decide_eq_false (by omega)
    have e2 : decide ((h.length : Int) ≤ 27) = decide (h.length ≤ 27) := by congr 1; apply propext; omega
    rw [List.drop_eq_nil_of_le (by omega)]
    simp only [e1, e2, br_false, ob_some, handP, Bool.true_and]
theorem i_IsHand_eq {n : Nat} (hn : BIG ≤ n) {h : List Card} (hl : h.length ≤ 9223372036854775807) : i_IsHand n h = some (hand h) := by
  unfold i_IsHand hand
  refine fx_cnt (B := i_IsHand_L1 n) h.length (fun i => (h, h, (h.length : Int), (i : Int))) (fun i => ∀ q, prevO h i = some q → isC q = true) (fun i => some (handP (prevO h i) (h.drop i) && decide (h.length ≤ 27))) ?_ n 0 (Nat.zero_le _) (fun q hq => by cases hq) (big_gt hn (by omega))
  intro self i hi hI hself
  simp only [i_IsHand_L1]
  by_cases h1 : i < h.length
  · rw [drop_cons h1, handP_cons]
    have e1 : decide ((i : Int) < (h.length : Int)) = true := decide_eq_true (by omega)
    simp only [e1, br_true, ob_some, inb_ok h1, ckb_true, toNat_cast, gl_eq h1, i_IsCard_eq hn]
    cases hc : isC h[i] with
    | false => simp
    | true =>
      have hnext : self (h, h, (h.length : Int), w64 ((i : Int) + 1)) = some (handP (some h[i]) (h.drop (i + 1)) && decide (h.length ≤ 27)) := by
        rw [w64_succ (by omega), hself h1 fun q hq => by
          simp only [prevO] at hq
          rw [List.getElem?_eq_getElem h1] at hq; injection hq with hq; subst hq; exact hc]
        simp only [prevO, List.getElem?_eq_getElem h1]
      cases i with
      | zero => simpa [prevO] using hnext
      | succ j =>
        have hj : j < h.length := by omega
        have hcj := hI h[j] (by simp only [prevO]; exact List.getElem?_eq_getElem hj)
        have e3 : decide ((0 : Int) < ((j + 1 : Nat) : Int)) = true := decide_eq_true (by omega)
        have e4 : w64 (((j + 1 : Nat) : Int) - 1) = (j : Int) := by rw [w64_id (by omega)]; omega
        simp only [e3, e4, br_true, br_false, Bool.not_true, lt_eq, inb_ok hj, ckb_true, toNat_cast, gl_eq hj, gl_eq h1, i_number_eq hn hcj, i_number_eq hn hc, ob_some, prevO, List.getElem?_eq_getElem hj, Bool.true_and]
        by_cases hlt : num h[j] < num h[j + 1]
        · have e5 : decide (num h[j + 1] ≤ num h[j]) = false := decide_eq_false (by omega)
          simp only [e5, decide_eq_true hlt, br_false, Bool.true_and]; exact hnext
        · have e5 : decide (num h[j + 1] ≤ num h[j]) = true := decide_eq_true (by omega)
          simp [e5, hlt]
  · have e1 : decide ((i : Int) < (h.length : Int)) = false := decide_eq_false (by omega)
    have e2 : decide ((h.length : Int) ≤ 27) = decide (h.length ≤ 27) := by congr 1; apply propext; omega
    rw [List.drop_eq_nil_of_le (by omega)]
    simp only [e1, e2, br_false, ob_some, handP, Bool.true_and]
theorem hand_len {h : List Card} (hh : hand h = true) : h.length ≤ 27 := by
  unfold hand at hh
  rw [Bool.and_eq_true] at hh
  exact of_decide_eq_true hh.2
theorem handP_all : ∀ {p : Option Card} {l : List Card}, handP p l = true → ∀ c ∈ l, isC c = true
  | p, c :: l, h, d, hd => by
    rw [handP_cons, Bool.and_eq_true, Bool.and_eq_true] at h
    rcases List.mem_cons.1 hd with rfl | hd
    · exact h.1.1
    · exact handP_all h.2 d hd
theorem hand_all {h : List Card} (hh : hand h = true) : ∀ c ∈ h, isC c = true := by
  unfold hand at hh
  rw [Bool.and_eq_true] at hh
  exact handP_all hh.1
theorem s_l2Own_eq {n : Nat} {h : List Card} (hl : h.length ≤ 1048576) : s_l2Own n h = some h := by
  unfold s_l2Own
  rw [apok_ok (by omega) (by omega)]; rfl
theorem slices_Clone_SA4_A4__eq {n : Nat} {h : List Card} (hl : h.length ≤ 1048576) : slices_Clone_SA4_A4_ n h = some h := by
  unfold slices_Clone_SA4_A4_
  refine amb_eq ?_ fun he => ?_
  · rw [apok_ok (by omega) (by omega)]; rfl
  · have : h = [] := by simpa using he
    subst this; rfl
end Go.Pl
namespace Go.Pl
open Go Go.Tv Go.RowKit
def t3 (x y : Int) : Int := Int.tmod (6 - x - y) 3
def third (a b : Card) : Card := ⟨t3 a.x0 b.x0, t3 a.x1 b.x1, t3 a.x2 b.x2, t3 a.x3 b.x3⟩
theorem t3_in {x y : Int} (hx : 0 ≤ x ∧ x ≤ 2) (hy : 0 ≤ y ∧ y ≤ 2) : 0 ≤ t3 x y ∧ t3 x y ≤ 2 := by
  unfold t3
  rw [Int.tmod_eq_emod_of_nonneg (by omega)]; omega
theorem third_isC {a b : Card} (ha : isC a = true) (hb : isC b = true) : isC (third a b) = true := by
  rw [isC_iff] at ha hb ⊢
  exact ⟨t3_in ha.1 hb.1, t3_in ha.2.1 hb.2.1, t3_in ha.2.2.1 hb.2.2.1, t3_in ha.2.2.2 hb.2.2.2⟩
theorem s_l2Third_eq {n : Nat} (hn : BIG ≤ n) {a b : Card} (ha : isC a = true) (hb : isC b = true) : s_l2Third n a b = some (third a b) := by
  obtain ⟨m, rfl⟩ : ∃ m, n = m + 5 := ⟨n - 5, by unfold BIG at hn; omega⟩
  rw [isC_iff] at ha hb
  unfold s_l2Third
  simp only [lt_eq, fx_succ, s_l2Third_L1]
  simp [inb, V4.get, V4.set]
  rw [w64_id (x := 6 - a.x0) (by omega), w64_id (x := 6 - a.x1) (by omega), w64_id (x := 6 - a.x2) (by omega), w64_id (x := 6 - a.x3) (by omega),
    w64_id (x := 6 - a.x0 - b.x0) (by omega), w64_id (x := 6 - a.x1 - b.x1) (by omega), w64_id (x := 6 - a.x2 - b.x2) (by omega), w64_id (x := 6 - a.x3 - b.x3) (by omega)]
  rfl
theorem i_third_eq {n : Nat} (hn : BIG ≤ n) {a b : Card} (ha : isC a = true) (hb : isC b = true) : i_third n a b = some (third a b) := by
  have h := s_l2Third_eq hn ha hb
  rw [← h]; rfl
def lineB (a b c : Card) : Bool := !decide (a = b) && decide (third a b = c)
theorem s_l2Line_eq {n : Nat} (hn : BIG ≤ n) {a b : Card} (c : Card) (ha : isC a = true) (hb : isC b = true) : s_l2Line n a b c = some (lineB a b c) := by
  unfold s_l2Line lineB
  rw [s_l2Third_eq hn ha hb]
  by_cases h : a = b <;> simp [eqd, h]
theorem i_isLine_eq {n : Nat} (hn : BIG ≤ n) {a b : Card} (c : Card) (ha : isC a = true) (hb : isC b = true) : i_isLine n a b c = some (lineB a b c) := by
  unfold i_isLine lineB
  rw [i_third_eq hn ha hb]
  by_cases h : a = b <;> simp [eqd, h]
end Go.Pl
namespace Go.Pl
open Go Go.Tv Go.RowKit
def placeI (o : Option Nat) : Int := match o with | some i => i | none => -1
def place (h : List Card) (c : Card) : Int := placeI (h.findIdx? fun x => decide (x = c))
theorem s_l2Place_eq {n : Nat} (hn : BIG ≤ n) {h : List Card} (hl : h.length ≤ 9223372036854775807) (c : Card) : s_l2Place n h c = some (place h c) := by
  unfold s_l2Place
  have := fx_find (B := s_l2Place_L1 n) h (fun i => (h, (i : Int), c)) (fun x => decide (x = c)) (fun i => some (i : Int)) (some (-1)) (fun self i hi => ?_) (fun self => ?_) n (big_gt hn (by omega))
  · have e : ((0 : Nat) : Int) = 0 := rfl
    simp only [e] at this
    rw [this]; unfold place placeI; cases h.findIdx? _ <;> rfl
  · have e1 : decide ((i : Int) < (h.length : Int)) = true := decide_eq_true (by omega)
    simp only [s_l2Place_L1, e1, br_true, inb_ok hi, ckb_true, toNat_cast, gl_eq hi, lt_eq, eqd]
    rw [w64_succ (by omega)]
    by_cases hc : h[i] = c <;> simp [hc]
  · have e1 : decide ((h.length : Int) < (h.length : Int)) = false := decide_eq_false (by omega)
    simp only [s_l2Place_L1, e1, br_false]
theorem place_of {h : List Card} {c : Card} {q : Nat} (hnd : h.Nodup) (hq : h[q]? = some c) : place h c = q := by
  obtain ⟨hlt, hqc⟩ := List.getElem?_eq_some_iff.1 hq
  unfold place placeI
  cases hf : h.findIdx? (fun x => decide (x = c)) with
  | none =>
    have := List.findIdx?_eq_none_iff.1 hf c (by rw [← hqc]; exact List.getElem_mem hlt)
    simp at this
  | some i =>
    obtain ⟨h1, h2, _⟩ := List.findIdx?_eq_some_iff_getElem.1 hf
    have h2 := of_decide_eq_true h2
    have : i = q := (List.getElem?_inj h1 hnd).1 (by rw [List.getElem?_eq_getElem h1, hq, h2])
    simp only [this]
theorem place_none {h : List Card} {c : Card} (hq : ∀ q : Nat, h[q]? ≠ some c) : place h c = -1 := by
  unfold place placeI
  cases hf : h.findIdx? (fun x => decide (x = c)) with
  | none => rfl
  | some i =>
    obtain ⟨h1, h2, _⟩ := List.findIdx?_eq_some_iff_getElem.1 hf
    have h2 := of_decide_eq_true h2
    exact (hq i (by rw [List.getElem?_eq_getElem h1, h2])).elim
theorem num_inj {a b : Card} (ha : isC a = true) (hb : isC b = true) (h : num a = num b) : a = b := by
  rw [isC_iff] at ha hb
  unfold num at h
  obtain ⟨a0, a1, a2, a3⟩ := a
  obtain ⟨b0, b1, b2, b3⟩ := b
  simp only at ha hb h
  congr 1 <;> omega
theorem handP_sorted : ∀ {p : Card} {l : List Card}, handP (some p) l = true → (∀ c, c ∈ l → num p < num c) ∧ l.Pairwise fun a b => num a < num b
  | p, [], _ => ⟨fun c hc => (by cases hc), List.Pairwise.nil⟩
  | p, c :: l, h => by
    rw [handP_cons, Bool.and_eq_true, Bool.and_eq_true] at h
    obtain ⟨⟨h1, h2⟩, h3⟩ := h
    have h2 := of_decide_eq_true h2
    obtain ⟨g1, g2⟩ := handP_sorted h3
    refine ⟨fun d hd => ?_, List.pairwise_cons.2 ⟨g1, g2⟩⟩
    rcases List.mem_cons.1 hd with rfl | hd
    · exact h2
    · have := g1 d hd; omega
theorem hand_sorted {h : List Card} (hh : hand h = true) : h.Pairwise fun a b => num a < num b := by
  unfold hand at hh
  rw [Bool.and_eq_true] at hh
  cases h with
  | nil => exact List.Pairwise.nil
  | cons c l =>
    have h1 := hh.1
    rw [handP_cons, Bool.and_eq_true] at h1
    obtain ⟨g1, g2⟩ := handP_sorted h1.2
    exact List.pairwise_cons.2 ⟨g1, g2⟩
theorem hand_nodup {h : List Card} (hh : hand h = true) : h.Nodup := (hand_sorted hh).imp fun hab heq => by rw [heq] at hab; exact absurd hab (Int.lt_irrefl _)
theorem VL.get_set {n : Nat} {α : Type} (d : α) (v : VL n α) {k j : Nat} (hk : k < n) (y : α) : VL.get d (VL.set v k y) j = if j = k then y else VL.get d v j := by
  unfold VL.get VL.set
  simp only [List.getD_eq_getElem?_getD, List.getElem?_set]
  have := v.h
  by_cases hj : k = j
  · subst hj; simp [this, hk]
  · have : j ≠ k := fun h => hj h.symm
    simp [hj, this]
theorem VL.get_rep {n : Nat} {α : Type} (d : α) (j : Nat) : VL.get d (VL.rep n d) j = d := by
  unfold VL.get VL.rep
  simp only [List.getD_eq_getElem?_getD, List.getElem?_replicate]
  split <;> rfl
def PlA (s : List Card) (i : Nat) (v : VL 81 Int) : Prop := ∀ c, isC c = true → ((∀ q : Nat, q < i → s[q]? ≠ some c) ∧ VL.get 0 v (num c).toNat = 0) ∨ ∃ q : Nat, q < i ∧ s[q]? = some c ∧ VL.get 0 v (num c).toNat = q + 1
theorem PlA.place {s : List Card} {v : VL 81 Int} (h : PlA s s.length v) (hnd : s.Nodup) {c : Card} (hc : isC c = true) : VL.get 0 v (num c).toNat = place s c + 1 := by
  rcases h c hc with ⟨h1, h2⟩ | ⟨q, _, h2, h3⟩
  · rw [h2, place_none fun q => ?_]; rfl
    by_cases hq : q < s.length
    · exact h1 q hq
    · rw [List.getElem?_eq_none (by omega)]; simp
  · rw [h3, place_of hnd h2]
end Go.Pl
namespace Go.Pl
open Go Go.Tv Go.RowKit
set_option linter.unusedVariables false
theorem fx_inv {σ ρ : Type} {B : (σ → Opt ρ) → σ → Opt ρ} (I : σ → Prop) (μ : σ → Nat) (Q : Opt ρ → Prop)
    (step : ∀ self s, I s → (∀ s', I s' → μ s' < μ s → Q (self s')) → Q (B self s)) : ∀ k s, I s → μ s < k → Q (fx B k s)
  | 0, _, _, h => by omega
  | k + 1, s, hI, h => by
    rw [fx_succ]
    exact step _ s hI fun s' hI' hlt => fx_inv I μ Q step k s' hI' (by omega)
def AllC (d : List Card) : Prop := ∀ c, c ∈ d → isC c = true
def nm (d : List Card) (i : Nat) : Int := num (gl (⟨0, 0, 0, 0⟩ : Card) d i)
def swc (d : List Card) (i j : Nat) : List Card := (d.set i (gl (⟨0, 0, 0, 0⟩ : Card) d j)).set j (gl (⟨0, 0, 0, 0⟩ : Card) d i)
theorem swp_len (d : List Card) (i j : Nat) : (swc d i j).length = d.length := by simp [swc]
theorem gl_set {α : Type} (z : α) (d : List α) (i : Nat) (x : α) (h : i < d.length) (k : Nat) : gl z (d.set i x) k = if k = i then x else gl z d k := by
  unfold gl
  simp only [List.getD_eq_getElem?_getD, List.getElem?_set]
  by_cases hk : i = k
  · subst hk; simp [h]
  · have hk' : ¬ k = i := fun h => hk h.symm
    simp [hk, hk']
theorem gl_swp {d : List Card} {i j : Nat} (hi : i < d.length) (hj : j < d.length) (k : Nat) :
    gl (⟨0, 0, 0, 0⟩ : Card) (swc d i j) k = if k = j then gl ⟨0, 0, 0, 0⟩ d i else if k = i then gl ⟨0, 0, 0, 0⟩ d j else gl ⟨0, 0, 0, 0⟩ d k := by
  unfold swc
  rw [gl_set _ _ _ _ (by simpa using hj), gl_set _ _ _ _ hi]
theorem nm_swp {d : List Card} {i j : Nat} (hi : i < d.length) (hj : j < d.length) (k : Nat) : nm (swc d i j) k = if k = j then nm d i else if k = i then nm d j else nm d k := by
  unfold nm
  rw [gl_swp hi hj]
  split
  · rfl
  · split <;> rfl
theorem nm_swp_or {d : List Card} {i j : Nat} (hi : i < d.length) (hj : j < d.length) (k : Nat) :
    k = j ∧ nm (swc d i j) k = nm d i ∨ k ≠ j ∧ k = i ∧ nm (swc d i j) k = nm d j ∨ k ≠ j ∧ k ≠ i ∧ nm (swc d i j) k = nm d k := by
  rw [nm_swp hi hj]
  by_cases h1 : k = j
  · rw [if_pos h1]; exact .inl ⟨h1, rfl⟩
  · rw [if_neg h1]
    by_cases h2 : k = i
    · rw [if_pos h2]; exact .inr (.inl ⟨h1, h2, rfl⟩)
    · rw [if_neg h2]; exact .inr (.inr ⟨h1, h2, rfl⟩)
theorem nsj {d : List Card} {i j : Nat} (hi : i < d.length) (hj : j < d.length) : nm (swc d i j) j = nm d i := by rw [nm_swp hi hj, if_pos rfl]
theorem nsi {d : List Card} {i j : Nat} (hi : i < d.length) (hj : j < d.length) : nm (swc d i j) i = nm d j := by
  rw [nm_swp hi hj, if_pos rfl]
  split
  · rename_i h; rw [h]
  · rfl
theorem nso {d : List Card} {i j : Nat} (hi : i < d.length) (hj : j < d.length) {k : Nat} (h1 : k ≠ i) (h2 : k ≠ j) : nm (swc d i j) k = nm d k := by rw [nm_swp hi hj, if_neg h2, if_neg h1]
theorem gl_C {d : List Card} (hd : AllC d) {i : Nat} (h : i < d.length) : isC (gl (⟨0, 0, 0, 0⟩ : Card) d i) = true := by
  rw [gl_eq h]; exact hd _ (List.getElem_mem h)
theorem mem_set_of {α : Type} {l : List α} {i : Nat} {x c : α} (h : c ∈ l.set i x) : c ∈ l ∨ c = x := by
  rcases List.mem_or_eq_of_mem_set h with h | h
  · exact .inl h
  · exact .inr h
theorem swp_AllC {d : List Card} {i j : Nat} (hi : i < d.length) (hj : j < d.length) (hd : AllC d) : AllC (swc d i j) := by
  intro c hc
  rcases mem_set_of hc with h | rfl
  · rcases mem_set_of h with h | rfl
    · exact hd c h
    · exact gl_C hd hj
  · exact gl_C hd hi
theorem i_compareCards_eq {n : Nat} (hn : BIG ≤ n) {a b : Card} (ha : isC a = true) (hb : isC b = true) : i_compareCards n a b = some (num a - num b) := by
  unfold i_compareCards
  have h1 := num_bd ha; have h2 := num_bd hb
  rw [i_number_eq hn ha, i_number_eq hn hb]
  simp only [ob_some, lt_eq]
  rw [w64_id (by omega)]
theorem cmp_at {n : Nat} (hn : BIG ≤ n) {d : List Card} (hd : AllC d) {i j : Nat} (hi : i < d.length) (hj : j < d.length) :
    i_compareCards n (gl (⟨0, 0, 0, 0⟩ : Card) d i) (gl (⟨0, 0, 0, 0⟩ : Card) d j) = some (nm d i - nm d j) := i_compareCards_eq hn (gl_C hd hi) (gl_C hd hj)
inductive Sw (a b : Nat) (d : List Card) : List Card → Prop
  | refl : Sw a b d d
  | step {d' : List Card} (h : Sw a b d d') (i j : Nat) (ha : a ≤ i) (hb : i < b) (ha' : a ≤ j) (hb' : j < b) (hl : b ≤ d.length) : Sw a b d (swc d' i j)
theorem Sw.len {a b : Nat} {d d' : List Card} (h : Sw a b d d') : d'.length = d.length := by
  induction h with
  | refl => rfl
  | step _ i j _ _ _ _ _ ih => rw [swp_len, ih]
theorem Sw.allC {a b : Nat} {d d' : List Card} (h : Sw a b d d') (hd : AllC d) : AllC d' := by
  induction h with
  | refl => exact hd
  | step h i j _ _ _ _ _ ih => exact swp_AllC (by rw [h.len]; omega) (by rw [h.len]; omega) ih
theorem Sw.out {a b : Nat} {d d' : List Card} (h : Sw a b d d') {k : Nat} (hk : k < a ∨ b ≤ k) : nm d' k = nm d k := by
  induction h with
  | refl => rfl
  | step h i j _ _ _ _ _ ih => rw [nm_swp (by rw [h.len]; omega) (by rw [h.len]; omega), if_neg (by omega), if_neg (by omega), ih]
theorem Sw.all {a b : Nat} {d d' : List Card} (h : Sw a b d d') {P : Int → Prop} (hP : ∀ k, a ≤ k → k < b → P (nm d k)) : ∀ k, a ≤ k → k < b → P (nm d' k) := by
  induction h with
  | refl => exact hP
  | step h i j _ _ _ _ _ ih =>
    intro k h1 h2
    rw [nm_swp (by rw [h.len]; omega) (by rw [h.len]; omega)]
    split
    · exact ih i (by omega) (by omega)
    · split
      · exact ih j (by omega) (by omega)
      · exact ih k h1 h2
theorem Sw.trans {a b : Nat} {d d' d'' : List Card} (h : Sw a b d d') (k : Sw a b d' d'') : Sw a b d d'' := by
  induction k with
  | refl => exact h
  | step k i j ha hb ha' hb' hl ih => exact .step ih i j ha hb ha' hb' (by rw [← h.len]; exact hl)
theorem Sw.mono {a b a' b' : Nat} {d d' : List Card} (h : Sw a b d d') (ha : a' ≤ a) (hb : b ≤ b') (hl : b' ≤ d.length) : Sw a' b' d d' := by
  induction h with
  | refl => exact .refl
  | step k i j h1 h2 h3 h4 _ ih => exact .step ih i j (by omega) (by omega) (by omega) (by omega) hl
theorem perm_swp {d : List Card} {i j : Nat} (hi : i < d.length) (hj : j < d.length) : ∀ c, (swc d i j).count c = d.count c := by
  intro c
  unfold swc
  rw [gl_eq hi, gl_eq hj]
  rw [List.count_set (by simpa using hj), List.count_set hi]
  simp only [List.getElem_set]
  have p1 : d[i] = c → 0 < d.count c := fun h => List.count_pos_iff.2 (h ▸ List.getElem_mem hi)
  have p2 : d[j] = c → 0 < d.count c := fun h => List.count_pos_iff.2 (h ▸ List.getElem_mem hj)
  by_cases hij : i = j
  · subst hij
    by_cases h1 : d[i] = c
    · have := p1 h1; simp [h1] <;> omega
    · simp [h1]
  · by_cases h1 : d[i] = c <;> by_cases h2 : d[j] = c
    · have := p1 h1; simp [h1, h2, hij]; omega
    · have := p1 h1; simp [h1, h2, hij]; omega
    · have := p2 h2; simp [h1, h2, hij]
    · simp [h1, h2, hij]
theorem Sw.count {a b : Nat} {d d' : List Card} (h : Sw a b d d') (c : Card) : d'.count c = d.count c := by
  induction h with
  | refl => rfl
  | step h i j _ _ _ _ _ ih => rw [perm_swp (by rw [h.len]; omega) (by rw [h.len]; omega), ih]
def Srt (d : List Card) (a b : Nat) : Prop := ∀ p q, a ≤ p → p < q → q < b → nm d p ≤ nm d q
def Post (a b : Nat) (d0 : List Card) (o : Opt (List Card)) : Prop := ∃ d, o = some d ∧ Sw a b d0 d ∧ Srt d a b
theorem w64_pred {i : Nat} (h : 1 ≤ i) (h2 : i < 9223372036854775807) : w64 ((i : Int) - 1) = ((i - 1 : Nat) : Int) := by rw [w64_id (by omega)]; omega
theorem insertion_ok {n : Nat} (hn : BIG ≤ n) {a b : Nat} {d0 : List Card} (hd0 : AllC d0) (hb : b ≤ d0.length) (hl : d0.length ≤ 1000000) (ha : a ≤ 1000000) :
    Post a b d0 (slices_insertionSortCmpFunc_A4_'o_i_compareCards n a b d0) := by
  unfold slices_insertionSortCmpFunc_A4_'o_i_compareCards
  rw [lt_eq, w64_succ (by omega)]
  refine fx_inv (B := slices_insertionSortCmpFunc_A4_'o_i_compareCards_L2 n) (fun s => ∃ (i : Nat) (d : List Card), s = ((a : Int), (b : Int), (i : Int), d) ∧ a < i ∧ i ≤ 1000001 ∧ Sw a b d0 d ∧ Srt d a i)
    (fun s => (s.2.1 - s.2.2.1).toNat) (Post a b d0) ?_ n _ ⟨a + 1, d0, rfl, by omega, by omega, .refl, fun p q _ _ _ => by omega⟩ (big_gt hn (by simp only []; omega))
  rintro self _ ⟨i, d, rfl, hai, hi1, hsw, hs⟩ ih
  simp only [slices_insertionSortCmpFunc_A4_'o_i_compareCards_L2]
  by_cases hib : i < b
  · rw [br_pos (decide_eq_true (by omega))]
    have hlen := hsw.len
    refine fx_inv (B := slices_insertionSortCmpFunc_A4_'o_i_compareCards_L1 n self) (fun s => ∃ (j : Nat) (e : List Card), s = ((a : Int), (b : Int), (i : Int), (j : Int), e) ∧ a ≤ j ∧ j ≤ i ∧ Sw a b d0 e ∧ ∀ p q, a ≤ p → p < q → q ≤ i → q ≠ j → nm e p ≤ nm e q)
      (fun s => s.2.2.2.1.toNat) (Post a b d0) ?_ n _ ⟨i, d, rfl, by omega, Nat.le_refl _, hsw, fun p q h1 h2 h3 h4 => hs p q h1 h2 (by omega)⟩ (big_gt hn (by simp only []; omega))
    rintro self2 _ ⟨j, e, rfl, haj, hji, hse, H⟩ ih2
    have hle := hse.len
    have hc := hse.allC hd0
    have fin : (a < j → nm e (j - 1) ≤ nm e j) → Post a b d0 (self ((a : Int), (b : Int), w64 ((i : Int) + 1), e)) := fun hx => by
      rw [w64_succ (by omega)]
      refine ih _ ⟨i + 1, e, rfl, by omega, by omega, hse, fun p q h1 h2 h3 => ?_⟩ (by simp only []; omega)
      by_cases hq : q = j
      · have := hx (by omega)
        have h5 := H p (j - 1) h1
        subst hq
        by_cases hp : p = q - 1
        · subst hp; exact this
        · have := h5 (by omega) (by omega) (by omega); omega
      · exact H p q h1 h2 (by omega) hq
    simp only [slices_insertionSortCmpFunc_A4_'o_i_compareCards_L1]
    by_cases hja : a < j
    · rw [br_pos (decide_eq_true (show (a : Int) < (j : Int) by omega))]
      simp only [lt_eq]
      rw [w64_pred (by omega) (by omega), ckb_pos (inb_ok (by omega)), ckb_pos (inb_ok (by omega)), toNat_cast, toNat_cast, cmp_at hn hc (by omega) (by omega), ob_some, ob_some]
      by_cases hlt : nm e j - nm e (j - 1) < 0
      · rw [br_pos (decide_eq_true hlt), ckb_pos (inb_ok (by omega)), ckb_pos (inb_ok (by omega)), ckb_pos (inb_ok (by omega)), ckb_pos (inb_ok (by rw [List.length_set]; omega))]
        refine ih2 _ ⟨j - 1, swc e j (j - 1), rfl, by omega, by omega, .step hse j (j - 1) (by omega) (by omega) (by omega) (by omega) hb, fun p q h1 h2 h3 h4 => ?_⟩ (by simp only []; omega)
        have o1 := nm_swp_or (d := e) (i := j) (j := j - 1) (by omega) (by omega) p
        have o2 := nm_swp_or (d := e) (i := j) (j := j - 1) (by omega) (by omega) q
        have e1 := H p q h1 h2 h3
        have e2 := H p (j - 1) h1
        have e3 := H (j - 1) q (by omega)
        have e4 := H j q (by omega)
        omega
      · rw [br_neg (decide_eq_false hlt)]
        exact fin fun _ => by omega
    · rw [br_neg (decide_eq_false (show ¬ (a : Int) < (j : Int) by omega)), ob_some, br_false, lt_eq]
      exact fin fun h => absurd h hja
  · rw [br_neg (decide_eq_false (by omega))]
    exact ⟨d, rfl, hsw, fun p q h1 h2 h3 => hs p q h1 h2 (by omega)⟩
end Go.Pl

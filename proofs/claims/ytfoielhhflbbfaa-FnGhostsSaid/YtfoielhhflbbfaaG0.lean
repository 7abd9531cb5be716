/- Plain laws: LP0, L2, L4, L2b, LD, LD2, LX1, L81. -/
import Derived.Test.YtfoielhhflbbfaaZ0
import Derived.OpenShut
import Derived.Test.YtfoielhhflbbfaaPL
import Derived.KernelRfl
set_option linter.unusedVariables false
set_option linter.unusedSimpArgs false
namespace Go.Pl
open Go Go.Tv Go.RowKit
theorem w64_id {x : Int} (h : -9223372036854775808 ≤ x ∧ x ≤ 9223372036854775807) : w64 x = x := by
  unfold w64
  simp only [IntKind.wrap, IntKind.bits, IntKind.signed]
  simp
  omega
@[simp] theorem lt_eq {α β : Type} (a : α) (k : α → Opt β) : Tv.lt a k = k a := rfl
@[simp] theorem ob_some {α β : Type} (a : α) (k : α → Opt β) : ob (some a) k = k a := rfl
@[simp] theorem br_true {β : Type} (x y : Opt β) : br true x y = x := rfl
@[simp] theorem br_false {β : Type} (x y : Opt β) : br false x y = y := rfl
@[simp] theorem ckb_true {β : Type} (k : Opt β) : ckb true k = k := rfl
@[simp] theorem jn_eq {σ β : Type} (rest : σ → Opt β) (body : (σ → Opt β) → Opt β) : jn rest body = body rest := rfl
theorem br_dec {β : Type} {p : Prop} [Decidable p] (x y : Opt β) : br (decide p) x y = if p then x else y := by
  by_cases h : p <;> simp [h, br]
theorem br_pos {β : Type} {c : Bool} (h : c = true) (x y : Opt β) : br c x y = x := by rw [h]; rfl
theorem br_neg {β : Type} {c : Bool} (h : c = false) (x y : Opt β) : br c x y = y := by rw [h]; rfl
theorem ckb_pos {β : Type} {c : Bool} (h : c = true) (k : Opt β) : ckb c k = k := by rw [h]; rfl
theorem fx_succ {σ ρ : Type} (f : (σ → Opt ρ) → σ → Opt ρ) (n : Nat) (s : σ) : fx f (n + 1) s = f (fx f n) s := rfl
theorem inb_pos {i : Int} {n : Nat} (h0 : 0 ≤ i) (h : i < n) : inb i n = true := decide_eq_true ⟨h0, h⟩
theorem inb_ok {i n : Nat} (h : i < n) : inb (i : Int) n = true := decide_eq_true ⟨by omega, by omega⟩
theorem slb_ok {lo hi : Int} {n : Nat} (h0 : 0 ≤ lo) (h1 : lo ≤ hi) (h2 : hi ≤ n) : slb lo hi n = true := decide_eq_true ⟨h0, h1, h2⟩
theorem apok_ok {b n : Nat} (h : n * b ≤ 140737488355328) (h2 : n ≤ 1125899906842624) : apok b n = true := decide_eq_true ⟨h, by unfold maxLen; omega⟩
theorem gl_eq {α : Type} {d : α} {l : List α} {k : Nat} (h : k < l.length) : gl d l k = l[k] := by
  rw [gl, List.getD_eq_getElem?_getD, List.getElem?_eq_getElem h]; rfl
@[simp] theorem toNat_cast (k : Nat) : ((k : Nat) : Int).toNat = k := rfl
@[simp] theorem w64_0 : w64 0 = 0 := by decide
@[simp] theorem w64_1 : w64 1 = 1 := by decide
@[simp] theorem w64_2 : w64 2 = 2 := by decide
@[simp] theorem w64_3 : w64 3 = 3 := by decide
@[simp] theorem w64_4 : w64 4 = 4 := by decide
@[simp] theorem w64_5 : w64 5 = 5 := by decide
@[simp] theorem w64_6 : w64 6 = 6 := by decide
@[simp] theorem w64_7 : w64 7 = 7 := by decide
@[simp] theorem w64_8 : w64 8 = 8 := by decide
@[simp] theorem w64_m1 : w64 (-1) = -1 := by decide
theorem w64_succ {k : Nat} (h : k < 9223372036854775807) : w64 ((k : Int) + 1) = ((k + 1 : Nat) : Int) := by rw [w64_id (by omega)]; omega
theorem amb_eq {β : Type} {e : Bool} {f : Bool → Opt β} {r : Opt β} (h0 : f false = r) (h1 : e = true → f true = r) : amb e f = r := by
  unfold amb
  cases e with
  | false => exact h0
  | true => simp only [h0, h1 rfl, if_true]
def BIG : Nat := 1208925819614629174706176
theorem big_gt {n m : Nat} (h : BIG ≤ n) (h2 : m < 1208925819614629174706176) : m < n := Nat.lt_of_lt_of_le h2 h
theorem fx_up {σ ρ α : Type} {B : (σ → Opt ρ) → σ → Opt ρ} (N : Nat) (st : Nat → α → σ) (I : Nat → α → Prop) (F : Nat → α → Opt ρ)
    (step : ∀ self i a, i ≤ N → I i a → (∀ a', i < N → I (i + 1) a' → self (st (i + 1) a') = F (i + 1) a') → B self (st i a) = F i a) : ∀ k i a, i ≤ N → I i a → N - i < k → fx B k (st i a) = F i a
  | 0, _, _, _, _, h => by omega
  | k + 1, i, a, hi, hI, h => by
    rw [fx_succ]
    exact step _ i a hi hI fun a' hlt hI' => fx_up N st I F step k (i + 1) a' (by omega) hI' (by omega)
theorem fx_cnt {σ ρ : Type} {B : (σ → Opt ρ) → σ → Opt ρ} (N : Nat) (st : Nat → σ) (I : Nat → Prop) (F : Nat → Opt ρ)
    (step : ∀ self i, i ≤ N → I i → (i < N → I (i + 1) → self (st (i + 1)) = F (i + 1)) → B self (st i) = F i) : ∀ k i, i ≤ N → I i → N - i < k → fx B k (st i) = F i
  | 0, _, _, _, h => by omega
  | k + 1, i, hi, hI, h => by
    rw [fx_succ]
    exact step _ i hi hI fun hlt hI' => fx_cnt N st I F step k (i + 1) (by omega) hI' (by omega)
theorem flatMap_congr' {α β : Type} {l : List α} {f g : α → List β} (h : ∀ x, x ∈ l → f x = g x) : l.flatMap f = l.flatMap g := by
  rw [List.flatMap_def, List.flatMap_def, List.map_congr_left h]
theorem range'_cons {i N : Nat} (h : i < N) : List.range' i (N - i) = i :: List.range' (i + 1) (N - (i + 1)) := by
  obtain ⟨d, hd⟩ : ∃ d, N - i = d + 1 := ⟨N - i - 1, by omega⟩
  rw [hd, List.range'_succ, show N - (i + 1) = d by omega]
theorem range'_nil {i N : Nat} (h : N ≤ i) : List.range' i (N - i) = [] := by rw [show N - i = 0 by omega]; rfl
theorem fx_app {σ ρ β : Type} {B : (σ → Opt ρ) → σ → Opt ρ} (N : Nat) (st : Nat → List β → σ) (f : Nat → List β) (fin : List β → Opt ρ) (M : Nat)
    (step : ∀ self i a, i < N → a.length + (f i).length ≤ M → B self (st i a) = self (st (i + 1) (a ++ f i))) (stop : ∀ self a, B self (st N a) = fin a) :
    ∀ k i a, i ≤ N → N - i < k → a.length + ((List.range' i (N - i)).flatMap f).length ≤ M → fx B k (st i a) = fin (a ++ (List.range' i (N - i)).flatMap f)
  | 0, _, _, _, h, _ => by omega
  | k + 1, i, a, hi, h, hM => by
    rw [fx_succ]
    by_cases hlt : i < N
    · rw [range'_cons hlt, List.flatMap_cons] at hM ⊢
      rw [List.length_append] at hM
      rw [step _ i a hlt (by omega), fx_app N st f fin M step stop k (i + 1) (a ++ f i) (by omega) (by omega) (by rw [List.length_append]; omega), List.append_assoc]
    · have : i = N := by omega
      subst this
      rw [stop, range'_nil (Nat.le_refl _)]; simp
theorem fx_sum {σ ρ : Type} {B : (σ → Opt ρ) → σ → Opt ρ} (N : Nat) (st : Nat → Int → σ) (g : Nat → Nat) (fin : Int → Opt ρ) (M : Int)
    (step : ∀ self i a, i < N → 0 ≤ a → a + g i ≤ M → B self (st i a) = self (st (i + 1) (a + g i))) (stop : ∀ self a, 0 ≤ a → a ≤ M → B self (st N a) = fin a) :
    ∀ k i a, i ≤ N → N - i < k → 0 ≤ a → a + (((List.range' i (N - i)).map g).sum : Nat) ≤ M → fx B k (st i a) = fin (a + (((List.range' i (N - i)).map g).sum : Nat))
  | 0, _, _, _, h, _, _ => by omega
  | k + 1, i, a, hi, h, h0, hM => by
    rw [fx_succ]
    by_cases hlt : i < N
    · rw [range'_cons hlt, List.map_cons, List.sum_cons] at hM ⊢
      rw [step _ i a hlt h0 (by omega), fx_sum N st g fin M step stop k (i + 1) (a + g i) (by omega) (by omega) (by omega) (by omega)]
      congr 1; omega
    · have : i = N := by omega
      subst this
      rw [range'_nil (Nat.le_refl _)] at hM ⊢
      rw [stop _ _ h0 (by simpa using hM)]; simp
theorem fx_find {σ ρ α : Type} {B : (σ → Opt ρ) → σ → Opt ρ} (l : List α) (st : Nat → σ) (p : α → Bool) (out : Nat → Opt ρ) (fin : Opt ρ)
    (step : ∀ self i (h : i < l.length), B self (st i) = if p l[i] = true then out i else self (st (i + 1))) (stop : ∀ self, B self (st l.length) = fin) (k : Nat) (hk : l.length < k) :
    fx B k (st 0) = match l.findIdx? p with | some i => out i | none => fin := by
  have go : ∀ (k i : Nat), i ≤ l.length → l.length - i < k → fx B k (st i) = match (l.drop i).findIdx? p with | some j => out (i + j) | none => fin := by
    intro k
    induction k with
    | zero => intro i _ h; omega
    | succ k ih =>
      intro i hi h
      rw [fx_succ]
      by_cases hlt : i < l.length
      · rw [step _ i hlt, List.drop_eq_getElem_cons hlt, List.findIdx?_cons]
        by_cases hp : p l[i] = true
        · simp [hp]
        · rw [if_neg hp, ih (i + 1) (by omega) (by omega)]
          simp only [hp, Bool.false_eq_true, if_false]
          cases hq : (l.drop (i + 1)).findIdx? p with
          | none => rfl
          | some j => simp only [Option.map_some]; congr 1; omega
      · have : i = l.length := by omega
        subst this
        rw [stop]; simp
  have := go k 0 (Nat.zero_le _) (by omega)
  simpa using this
theorem findIdx?_any {α : Type} (l : List α) (p : α → Bool) : (l.findIdx? p).isSome = l.any p := List.findIdx?_isSome
theorem fx_foldl {σ ρ α β : Type} {B : (σ → Opt ρ) → σ → Opt ρ} (l : List β) (st : Nat → α → σ) (op : α → β → α) (fin : α → Opt ρ) (I : Nat → α → Prop) (hI : ∀ i a (h : i < l.length), I i a → I (i + 1) (op a l[i]))
    (step : ∀ self i a (h : i < l.length), I i a → B self (st i a) = self (st (i + 1) (op a l[i]))) (stop : ∀ self a, I l.length a → B self (st l.length a) = fin a) (k : Nat) (hk : l.length < k) (a : α) (h0 : I 0 a) :
    fx B k (st 0 a) = fin (l.foldl op a) := by
  have go : ∀ (k i : Nat) (a : α), i ≤ l.length → l.length - i < k → I i a → fx B k (st i a) = fin ((l.drop i).foldl op a) := by
    intro k
    induction k with
    | zero => intro i _ _ h; omega
    | succ k ih =>
      intro i a hi h ha
      rw [fx_succ]
      by_cases hlt : i < l.length
      · rw [step _ i a hlt ha, List.drop_eq_getElem_cons hlt, List.foldl_cons, ih (i + 1) _ (by omega) (by omega) (hI i a hlt ha)]
      · have : i = l.length := by omega
        subst this
        rw [stop _ _ ha]; simp
  have := go k 0 a (Nat.zero_le _) (by omega) h0
  simpa using this
theorem drop_cons {α : Type} {l : List α} {i : Nat} (h : i < l.length) : l.drop i = l[i] :: l.drop (i + 1) := List.drop_eq_getElem_cons h
theorem take_snoc {α : Type} {l : List α} {i : Nat} (h : i < l.length) : l.take (i + 1) = l.take i ++ [l[i]] := by rw [List.take_add_one, List.getElem?_eq_getElem h]; rfl
end Go.Pl
namespace Go.Pl
open Go Go.Tv Go.RowKit
abbrev Card := V4 Int
def in3 (x : Int) : Bool := decide (0 ≤ x ∧ x ≤ 2)
def isC (c : Card) : Bool := in3 c.x0 && in3 c.x1 && in3 c.x2 && in3 c.x3
def num (c : Card) : Int := 27 * c.x0 + 9 * c.x1 + 3 * c.x2 + c.x3
theorem in3_iff {x : Int} : in3 x = true ↔ 0 ≤ x ∧ x ≤ 2 := by unfold in3; exact decide_eq_true_iff
theorem isC_iff {c : Card} : isC c = true ↔ (0 ≤ c.x0 ∧ c.x0 ≤ 2) ∧ (0 ≤ c.x1 ∧ c.x1 ≤ 2) ∧ (0 ≤ c.x2 ∧ c.x2 ≤ 2) ∧ 0 ≤ c.x3 ∧ c.x3 ≤ 2 := by
  unfold isC; simp only [Bool.and_eq_true, in3_iff, and_assoc]
theorem num_bd {c : Card} (h : isC c = true) : 0 ≤ num c ∧ num c ≤ 80 := by
  rw [isC_iff] at h; unfold num; omega
theorem s_l1In_eq (n : Nat) (x a b : Int) : s_l1In n x a b = some (decide (a ≤ x ∧ x ≤ b)) := by
  unfold s_l1In
  by_cases h : a ≤ x <;> simp [h]
theorem i_within_eq (n : Nat) (x a b : Int) : i_within n x a b = some (decide (a ≤ x ∧ x ≤ b)) := by
  unfold i_within
  by_cases h : a ≤ x <;> simp [h]
theorem s_l1In_3 (n : Nat) (x : Int) : s_l1In n x 0 2 = some (in3 x) := s_l1In_eq n x 0 2
theorem i_within_3 (n : Nat) (x : Int) : i_within n x 0 2 = some (in3 x) := i_within_eq n x 0 2
theorem s_l2Card_eq {n : Nat} (hn : BIG ≤ n) (c : Card) : s_l2Card n c = some (isC c) := by
  obtain ⟨m, rfl⟩ : ∃ m, n = m + 5 := ⟨n - 5, by unfold BIG at hn; omega⟩
  unfold s_l2Card isC
  simp only [fx_succ, s_l2Card_L1, s_l1In_3, ob_some]
  simp only [inb, V4.get]
  cases h0 : in3 c.x0 <;> cases h1 : in3 c.x1 <;> cases h2 : in3 c.x2 <;> cases h3 : in3 c.x3 <;> simp [h0, h1, h2, h3]
theorem i_IsCard_eq {n : Nat} (hn : BIG ≤ n) (c : Card) : i_IsCard n c = some (isC c) := by
  obtain ⟨m, rfl⟩ : ∃ m, n = m + 5 := ⟨n - 5, by unfold BIG at hn; omega⟩
  unfold i_IsCard i_allWithin slices_ContainsFunc_Sint_int_'l_i_allWithin_1pp slices_IndexFunc_Sint_int_'l_i_allWithin_1pp isC
  simp only [fx_succ, slices_IndexFunc_Sint_int_'l_i_allWithin_1pp_L1, i_allWithin_1'pp, i_within_3, ob_some]
  simp only [inb, V4.els, gl]
  cases h0 : in3 c.x0 <;> cases h1 : in3 c.x1 <;> cases h2 : in3 c.x2 <;> cases h3 : in3 c.x3 <;> simp [h0, h1, h2, h3, i_within_3]
theorem s_l2Number_eq {n : Nat} {c : Card} (h : isC c = true) : s_l2Number n c = some (num c) := by
  rw [isC_iff] at h
  unfold s_l2Number num
  simp only [lt_eq]
  rw [w64_id (x := 27 * c.x0) (by omega), w64_id (x := 9 * c.x1) (by omega), w64_id (x := 3 * c.x2) (by omega), w64_id (x := 27 * c.x0 + 9 * c.x1) (by omega), w64_id (x := 27 * c.x0 + 9 * c.x1 + 3 * c.x2) (by omega), w64_id (by omega)]
theorem i_number_eq {n : Nat} (hn : BIG ≤ n) {c : Card} (h : isC c = true) : i_number n c = some (num c) := by
  obtain ⟨m, rfl⟩ : ∃ m, n = m + 5 := ⟨n - 5, by unfold BIG at hn; omega⟩
  rw [isC_iff] at h
  unfold i_number num
  simp only [fx_succ, i_number_L1, lt_eq]
  simp only [inb, V4.get]
  simp
  rw [w64_id (x := c.x0) (by omega), w64_id (x := 3 * c.x0) (by omega), w64_id (x := 3 * c.x0 + c.x1) (by omega), w64_id (x := 3 * (3 * c.x0 + c.x1)) (by omega), w64_id (x := 3 * (3 * c.x0 + c.x1) + c.x2) (by omega), w64_id (x := 3 * (3 * (3 * c.x0 + c.x1) + c.x2)) (by omega), w64_id (by omega)]
  omega
def handP : Option Card → List Card → Bool
  | _, [] => true
  | p, c :: l => isC c && (match p with | none => true | some q => decide (num q < num c)) && handP (some c) l
def hand (h : List Card) : Bool := handP none h && decide (h.length ≤ 27)
def prevO (h : List Card) : Nat → Option Card
  | 0 => none
  | i + 1 => h[i]?
theorem handP_cons {p : Option Card} {c : Card} {l : List Card} : handP p (c :: l) = (isC c && (match p with | none => true | some q => decide (num q < num c)) && handP (some c) l) := rfl
theorem s_l2Less_eq {n : Nat} {a b : Card} (ha : isC a = true) (hb : isC b = true) : s_l2Less n a b = some (decide (num a < num b)) := by
  unfold s_l2Less
  rw [s_l2Number_eq ha, s_l2Number_eq hb]; rfl
theorem s_l2Hand_eq {n : Nat} (hn : BIG ≤ n) {h : List Card} (hl : h.length ≤ 9223372036854775807) : s_l2Hand n h = some (hand h) := by
  unfold s_l2Hand hand
  refine fx_cnt (B := s_l2Hand_L1 n) h.length (fun i => (h, (i : Int))) (fun i => ∀ q, prevO h i = some q → isC q = true) (fun i => some (handP (prevO h i) (h.drop i) && decide (h.length ≤ 27))) ?_ n 0 (Nat.zero_le _) (fun q hq => by cases hq) (big_gt hn (by omega))
  intro self i hi hI hself
  simp only [s_l2Hand_L1]
  by_cases h1 : i < h.length
  · rw [drop_cons h1, handP_cons]
    by_cases h2 : i ≤ 27
    · have e1 : decide ((i : Int) < (h.length : Int)) = true := decide_eq_true (by omega)
      have e2 : decide ((i : Int) ≤ 27) = true := decide_eq_true (by omega)
      simp only [e1, e2, br_true, ob_some, inb_ok h1, ckb_true, toNat_cast, gl_eq h1, s_l2Card_eq hn]
      cases hc : isC h[i] with
      | false => simp
      | true =>
        have hnext : self (h, w64 ((i : Int) + 1)) = some (handP (some h[i]) (h.drop (i + 1)) && decide (h.length ≤ 27)) := by
          rw [w64_succ (by omega), hself h1 fun q hq => by
            simp only [prevO] at hq
            rw [List.getElem?_eq_getElem h1] at hq; injection hq with hq; subst hq; exact hc]
          simp only [prevO, List.getElem?_eq_getElem h1]
        cases i with
        | zero => simpa [prevO] using hnext
        | succ j =>
          have hj : j < h.length := by omega
          have hcj := hI h[j] (by simp only [prevO]; exact List.getElem?_eq_getElem hj)
          have e3 : decide ((0 : Int) < ((j + 1 : Nat) : Int)) = true := decide_eq_true (by omega)
          have e4 : w64 (((j + 1 : Nat) : Int) - 1) = (j : Int) := by rw [w64_id (by omega)]; omega
          simp only [e3, e4, br_true, br_false, Bool.not_true, lt_eq, inb_ok hj, inb_ok h1, ckb_true, toNat_cast, gl_eq hj, gl_eq h1, s_l2Less_eq hcj hc, ob_some, prevO, List.getElem?_eq_getElem hj, Bool.true_and]
          cases decide (num h[j] < num h[j + 1]) with
          | false => simp
          | true => simpa using hnext
    · have e2 : decide ((i : Int) ≤ 27) = false := decide_eq_false (by omega)
      have e3 : decide ((h.length : Int) ≤ 27) = false := decide_eq_false (by omega)
      have e4 : decide (h.length ≤ 27) = false := decide_eq_false (by omega)
      have e1 : decide ((i : Int) < (h.length : Int)) = true := decide_eq_true (by omega)
      simp only [e1, e2, e3, e4, br_true, br_false, ob_some, Bool.and_false]
  · have e1 : decide ((i : Int) < (h.length : Int)) = false := decide_eq_false (by omega)
    have e2 : decide ((h.length : Int) ≤ 27) = decide (h.length ≤ 27) := by congr 1; apply propext; omega
    rw [List.drop_eq_nil_of_le (by omega)]
    simp only [e1, e2, br_false, ob_some, handP, Bool.true_and]
theorem i_IsHand_eq {n : Nat} (hn : BIG ≤ n) {h : List Card} (hl : h.length ≤ 9223372036854775807) : i_IsHand n h = some (hand h) := by
  unfold i_IsHand hand
  refine fx_cnt (B := i_IsHand_L1 n) h.length (fun i => (h, h, (h.length : Int), (i : Int))) (fun i => ∀ q, prevO h i = some q → isC q = true) (fun i => some (handP (prevO h i) (h.drop i) && decide (h.length ≤ 27))) ?_ n 0 (Nat.zero_le _) (fun q hq => by cases hq) (big_gt hn (by omega))
  intro self i hi hI hself
  simp only [i_IsHand_L1]
  by_cases h1 : i < h.length
  · rw [drop_cons h1, handP_cons]
    have e1 : decide ((i : Int) < (h.length : Int)) = true := decide_eq_true (by omega)
    simp only [e1, br_true, ob_some, inb_ok h1, ckb_true, toNat_cast, gl_eq h1, i_IsCard_eq hn]
    cases hc : isC h[i] with
    | false => simp
    | true =>
      have hnext : self (h, h, (h.length : Int), w64 ((i : Int) + 1)) = some (handP (some h[i]) (h.drop (i + 1)) && decide (h.length ≤ 27)) := by
        rw [w64_succ (by omega), hself h1 fun q hq => by
          simp only [prevO] at hq
          rw [List.getElem?_eq_getElem h1] at hq; injection hq with hq; subst hq; exact hc]
        simp only [prevO, List.getElem?_eq_getElem h1]
      cases i with
      | zero => simpa [prevO] using hnext
      | succ j =>
        have hj : j < h.length := by omega
        have hcj := hI h[j] (by simp only [prevO]; exact List.getElem?_eq_getElem hj)
        have e3 : decide ((0 : Int) < ((j + 1 : Nat) : Int)) = true := decide_eq_true (by omega)
        have e4 : w64 (((j + 1 : Nat) : Int) - 1) = (j : Int) := by rw [w64_id (by omega)]; omega
        simp only [e3, e4, br_true, br_false, Bool.not_true, lt_eq, inb_ok hj, ckb_true, toNat_cast, gl_eq hj, gl_eq h1, i_number_eq hn hcj, i_number_eq hn hc, ob_some, prevO, List.getElem?_eq_getElem hj, Bool.true_and]
        by_cases hlt : num h[j] < num h[j + 1]
        · have e5 : decide (num h[j + 1] ≤ num h[j]) = false := decide_eq_false (by omega)
          simp only [e5, decide_eq_true hlt, br_false, Bool.true_and]; exact hnext
        · have e5 : decide (num h[j + 1] ≤ num h[j]) = true := decide_eq_true (by omega)
          simp [e5, hlt]
  · have e1 : decide ((i : Int) < (h.length : Int)) = false := decide_eq_false (by omega)
    have e2 : decide ((h.length : Int) ≤ 27) = decide (h.length ≤ 27) := by congr 1; apply propext; omega
    rw [List.drop_eq_nil_of_le (by omega)]
    simp only [e1, e2, br_false, ob_some, handP, Bool.true_and]
theorem hand_len {h : List Card} (hh : hand h = true) : h.length ≤ 27 := by
  unfold hand at hh
  rw [Bool.and_eq_true] at hh
  exact of_decide_eq_true hh.2
theorem handP_all : ∀ {p : Option Card} {l : List Card}, handP p l = true → ∀ c ∈ l, isC c = true
  | p, c :: l, h, d, hd => by
    rw [handP_cons, Bool.and_eq_true, Bool.and_eq_true] at h
    rcases List.mem_cons.1 hd with rfl | hd
    · exact h.1.1
    · exact handP_all h.2 d hd
theorem hand_all {h : List Card} (hh : hand h = true) : ∀ c ∈ h, isC c = true := by
  unfold hand at hh
  rw [Bool.and_eq_true] at hh
  exact handP_all hh.1
theorem s_l2Own_eq {n : Nat} {h : List Card} (hl : h.length ≤ 1048576) : s_l2Own n h = some h := by
  unfold s_l2Own
  rw [apok_ok (by omega) (by omega)]; rfl
theorem slices_Clone_SA4_A4__eq {n : Nat} {h : List Card} (hl : h.length ≤ 1048576) : slices_Clone_SA4_A4_ n h = some h := by
  unfold slices_Clone_SA4_A4_
  refine amb_eq ?_ fun he => ?_
  · rw [apok_ok (by omega) (by omega)]; rfl
  · have : h = [] := by simpa using he
    subst this; rfl
end Go.Pl
namespace Go.Pl
open Go Go.Tv Go.RowKit
def t3 (x y : Int) : Int := Int.tmod (6 - x - y) 3
def third (a b : Card) : Card := ⟨t3 a.x0 b.x0, t3 a.x1 b.x1, t3 a.x2 b.x2, t3 a.x3 b.x3⟩
theorem t3_in {x y : Int} (hx : 0 ≤ x ∧ x ≤ 2) (hy : 0 ≤ y ∧ y ≤ 2) : 0 ≤ t3 x y ∧ t3 x y ≤ 2 := by
  unfold t3
  rw [Int.tmod_eq_emod_of_nonneg (by omega)]; omega
theorem third_isC {a b : Card} (ha : isC a = true) (hb : isC b = true) : isC (third a b) = true := by
  rw [isC_iff] at ha hb ⊢
  exact ⟨t3_in ha.1 hb.1, t3_in ha.2.1 hb.2.1, t3_in ha.2.2.1 hb.2.2.1, t3_in ha.2.2.2 hb.2.2.2⟩
theorem s_l2Third_eq {n : Nat} (hn : BIG ≤ n) {a b : Card} (ha : isC a = true) (hb : isC b = true) : s_l2Third n a b = some (third a b) := by
  obtain ⟨m, rfl⟩ : ∃ m, n = m + 5 := ⟨n - 5, by unfold BIG at hn; omega⟩
  rw [isC_iff] at ha hb
  unfold s_l2Third
  simp only [lt_eq, fx_succ, s_l2Third_L1]
  simp [inb, V4.get, V4.set]
  rw [w64_id (x := 6 - a.x0) (by omega), w64_id (x := 6 - a.x1) (by omega), w64_id (x := 6 - a.x2) (by omega), w64_id (x := 6 - a.x3) (by omega),
    w64_id (x := 6 - a.x0 - b.x0) (by omega), w64_id (x := 6 - a.x1 - b.x1) (by omega), w64_id (x := 6 - a.x2 - b.x2) (by omega), w64_id (x := 6 - a.x3 - b.x3) (by omega)]
  rfl
theorem i_third_eq {n : Nat} (hn : BIG ≤ n) {a b : Card} (ha : isC a = true) (hb : isC b = true) : i_third n a b = some (third a b) := by
  have h := s_l2Third_eq hn ha hb
  rw [← h]; rfl
def lineB (a b c : Card) : Bool := !decide (a = b) && decide (third a b = c)
theorem s_l2Line_eq {n : Nat} (hn : BIG ≤ n) {a b : Card} (c : Card) (ha : isC a = true) (hb : isC b = true) : s_l2Line n a b c = some (lineB a b c) := by
  unfold s_l2Line lineB
  rw [s_l2Third_eq hn ha hb]
  by_cases h : a = b <;> simp [eqd, h]
theorem i_isLine_eq {n : Nat} (hn : BIG ≤ n) {a b : Card} (c : Card) (ha : isC a = true) (hb : isC b = true) : i_isLine n a b c = some (lineB a b c) := by
  unfold i_isLine lineB
  rw [i_third_eq hn ha hb]
  by_cases h : a = b <;> simp [eqd, h]
end Go.Pl
namespace Go.Pl
open Go Go.Tv Go.RowKit
def placeI (o : Option Nat) : Int := match o with | some i => i | none => -1
def place (h : List Card) (c : Card) : Int := placeI (h.findIdx? fun x => decide (x = c))
theorem s_l2Place_eq {n : Nat} (hn : BIG ≤ n) {h : List Card} (hl : h.length ≤ 9223372036854775807) (c : Card) : s_l2Place n h c = some (place h c) := by
  unfold s_l2Place
  have := fx_find (B := s_l2Place_L1 n) h (fun i => (h, (i : Int), c)) (fun x => decide (x = c)) (fun i => some (i : Int)) (some (-1)) (fun self i hi => ?_) (fun self => ?_) n (big_gt hn (by omega))
  · have e : ((0 : Nat) : Int) = 0 := rfl
    simp only [e] at this
    rw [this]; unfold place placeI; cases h.findIdx? _ <;> rfl
  · have e1 : decide ((i : Int) < (h.length : Int)) = true := decide_eq_true (by omega)
    simp only [s_l2Place_L1, e1, br_true, inb_ok hi, ckb_true, toNat_cast, gl_eq hi, lt_eq, eqd]
    rw [w64_succ (by omega)]
    by_cases hc : h[i] = c <;> simp [hc]
  · have e1 : decide ((h.length : Int) < (h.length : Int)) = false := decide_eq_false (by omega)
    simp only [s_l2Place_L1, e1, br_false]
theorem place_bd {h : List Card} {c : Card} : -1 ≤ place h c ∧ place h c < h.length := by
  unfold place placeI
  cases hf : h.findIdx? (fun x => decide (x = c)) with
  | none => simp only; omega
  | some i =>
    have := (List.findIdx?_eq_some_iff_getElem.1 hf).1
    simp only; omega
theorem place_of {h : List Card} {c : Card} {q : Nat} (hnd : h.Nodup) (hq : h[q]? = some c) : place h c = q := by
  obtain ⟨hlt, hqc⟩ := List.getElem?_eq_some_iff.1 hq
  unfold place placeI
  cases hf : h.findIdx? (fun x => decide (x = c)) with
  | none =>
    have := List.findIdx?_eq_none_iff.1 hf c (by rw [← hqc]; exact List.getElem_mem hlt)
    simp at this
  | some i =>
    obtain ⟨h1, h2, _⟩ := List.findIdx?_eq_some_iff_getElem.1 hf
    have h2 := of_decide_eq_true h2
    have : i = q := (List.getElem?_inj h1 hnd).1 (by rw [List.getElem?_eq_getElem h1, hq, h2])
    simp only [this]
theorem place_none {h : List Card} {c : Card} (hq : ∀ q : Nat, h[q]? ≠ some c) : place h c = -1 := by
  unfold place placeI
  cases hf : h.findIdx? (fun x => decide (x = c)) with
  | none => rfl
  | some i =>
    obtain ⟨h1, h2, _⟩ := List.findIdx?_eq_some_iff_getElem.1 hf
    have h2 := of_decide_eq_true h2
    exact (hq i (by rw [List.getElem?_eq_getElem h1, h2])).elim
theorem num_inj {a b : Card} (ha : isC a = true) (hb : isC b = true) (h : num a = num b) : a = b := by
  rw [isC_iff] at ha hb
  unfold num at h
  obtain ⟨a0, a1, a2, a3⟩ := a
  obtain ⟨b0, b1, b2, b3⟩ := b
  simp only at ha hb h
  congr 1 <;> omega
theorem handP_sorted : ∀ {p : Card} {l : List Card}, handP (some p) l = true → (∀ c, c ∈ l → num p < num c) ∧ l.Pairwise fun a b => num a < num b
  | p, [], _ => ⟨fun c hc => (by cases hc), List.Pairwise.nil⟩
  | p, c :: l, h => by
    rw [handP_cons, Bool.and_eq_true, Bool.and_eq_true] at h
    obtain ⟨⟨h1, h2⟩, h3⟩ := h
    have h2 := of_decide_eq_true h2
    obtain ⟨g1, g2⟩ := handP_sorted h3
    refine ⟨fun d hd => ?_, List.pairwise_cons.2 ⟨g1, g2⟩⟩
    rcases List.mem_cons.1 hd with rfl | hd
    · exact h2
    · have := g1 d hd; omega
theorem hand_sorted {h : List Card} (hh : hand h = true) : h.Pairwise fun a b => num a < num b := by
  unfold hand at hh
  rw [Bool.and_eq_true] at hh
  cases h with
  | nil => exact List.Pairwise.nil
  | cons c l =>
    have h1 := hh.1
    rw [handP_cons, Bool.and_eq_true] at h1
    obtain ⟨g1, g2⟩ := handP_sorted h1.2
    exact List.pairwise_cons.2 ⟨g1, g2⟩
theorem hand_nodup {h : List Card} (hh : hand h = true) : h.Nodup := (hand_sorted hh).imp fun hab heq => by rw [heq] at hab; exact absurd hab (Int.lt_irrefl _)
def zz : Card := ⟨0, 0, 0, 0⟩
def ln1 (h : List Card) (i j : Nat) : List (V3 Int) := if (j : Int) < place h (third (gl zz h i) (gl zz h j)) then [⟨i, j, place h (third (gl zz h i) (gl zz h j))⟩] else []
def ln2 (h : List Card) (i : Nat) : List (V3 Int) := (List.range' (i + 1) (h.length - (i + 1))).flatMap (ln1 h i)
def linesOf (h : List Card) : List (V3 Int) := (List.range' 0 (h.length - 0)).flatMap (ln2 h)
theorem flen {α β : Type} {f : α → List β} {M : Nat} : ∀ {l : List α}, (∀ x, x ∈ l → (f x).length ≤ M) → (l.flatMap f).length ≤ l.length * M
  | [], _ => by simp
  | x :: l, h => by
    have := flen (l := l) (f := f) (M := M) fun y hy => h y (by simp [hy])
    have h2 := h x (by simp)
    rw [List.flatMap_cons, List.length_append, List.length_cons, Nat.succ_mul]; omega
theorem ln1_len {h : List Card} {i j : Nat} : (ln1 h i j).length ≤ 1 := by unfold ln1; split <;> simp
theorem ln2_len {h : List Card} {i : Nat} : (ln2 h i).length ≤ h.length := by
  have := flen (l := List.range' (i + 1) (h.length - (i + 1))) (f := ln1 h i) (M := 1) fun _ _ => ln1_len
  rw [List.length_range', Nat.mul_one] at this
  unfold ln2; omega
theorem linesOf_len {h : List Card} : (linesOf h).length ≤ h.length * h.length := by
  have := flen (l := List.range' 0 (h.length - 0)) (f := ln2 h) (M := h.length) fun _ _ => ln2_len
  rw [List.length_range', Nat.sub_zero] at this
  unfold linesOf; exact this
theorem glz_isC {s : List Card} (hs : ∀ c, c ∈ s → isC c = true) {i : Nat} (h : i < s.length) : isC (gl zz s i) = true := by
  rw [gl_eq h]; exact hs _ (List.getElem_mem h)
theorem s_l2Lines_eq {n : Nat} (hn : BIG ≤ n) {s : List Card} (hl : s.length ≤ 81) (hs : ∀ c, c ∈ s → isC c = true) : s_l2Lines n s = some (linesOf s) := by
  unfold s_l2Lines
  have b3 : s.length * s.length ≤ 81 * 81 := Nat.mul_le_mul hl hl
  have h3 := linesOf_len (h := s)
  have e : ∀ i : Nat, i < s.length → decide ((i : Int) < (s.length : Int)) = true := fun i h => decide_eq_true (by omega)
  have e' : decide ((s.length : Int) < (s.length : Int)) = false := decide_eq_false (by omega)
  have := fx_app (B := s_l2Lines_L2 n) s.length (fun i a => (s, (i : Int), a)) (ln2 s) some 1000000 (fun self i a hi hM => ?_) (fun self a => by simp only [s_l2Lines_L2, e', br_false]) n 0 [] (Nat.zero_le _) (big_gt hn (by omega)) (by unfold linesOf at h3; simp only [List.length_nil]; omega)
  · simpa [linesOf] using this
  · simp only [s_l2Lines_L2, e i hi, br_true, lt_eq]
    rw [w64_succ (by omega)]
    refine fx_app (B := s_l2Lines_L1 n self) s.length (fun j a => (s, (i : Int), (j : Int), a)) (ln1 s i) (fun a => self (s, ((i + 1 : Nat) : Int), a)) 1000000 (fun self2 j a hj hM2 => ?_) (fun self2 a => by
      simp only [s_l2Lines_L1, e', br_false, lt_eq]; rw [w64_succ (by omega)]) n (i + 1) a (by omega) (big_gt hn (by omega)) (by unfold ln2 at hM; exact hM)
    have hth := s_l2Third_eq hn (glz_isC hs hi) (glz_isC hs hj)
    unfold zz at hth
    have e5 : third (gl zz s i) (gl zz s j) = third (gl ⟨0, 0, 0, 0⟩ s i) (gl ⟨0, 0, 0, 0⟩ s j) := rfl
    simp only [s_l2Lines_L1, e j hj, br_true, inb_ok hi, inb_ok hj, ckb_true, toNat_cast, lt_eq, hth, ob_some, s_l2Place_eq hn (h := s) (by omega)]
    unfold ln1 at hM2 ⊢
    rw [e5] at hM2 ⊢
    rw [w64_succ (by omega)]
    by_cases hb : (j : Int) < place s (third (gl ⟨0, 0, 0, 0⟩ s i) (gl ⟨0, 0, 0, 0⟩ s j))
    · rw [if_pos hb] at hM2 ⊢
      simp only [List.length_singleton] at hM2
      rw [apok_ok (by omega) (by omega), decide_eq_true hb]; rfl
    · rw [if_neg hb, decide_eq_false hb]; simp
theorem VL.get_set {n : Nat} {α : Type} (d : α) (v : VL n α) {k j : Nat} (hk : k < n) (y : α) : VL.get d (VL.set v k y) j = if j = k then y else VL.get d v j := by
  unfold VL.get VL.set
  simp only [List.getD_eq_getElem?_getD, List.getElem?_set]
  have := v.h
  by_cases hj : k = j
  · subst hj; simp [this, hk]
  · have : j ≠ k := fun h => hj h.symm
    simp [hj, this]
theorem VL.get_rep {n : Nat} {α : Type} (d : α) (j : Nat) : VL.get d (VL.rep n d) j = d := by
  unfold VL.get VL.rep
  simp only [List.getD_eq_getElem?_getD, List.getElem?_replicate]
  split <;> rfl
def PlA (s : List Card) (i : Nat) (v : VL 81 Int) : Prop := ∀ c, isC c = true → ((∀ q : Nat, q < i → s[q]? ≠ some c) ∧ VL.get 0 v (num c).toNat = 0) ∨ ∃ q : Nat, q < i ∧ s[q]? = some c ∧ VL.get 0 v (num c).toNat = q + 1
theorem PlA.place {s : List Card} {v : VL 81 Int} (h : PlA s s.length v) (hnd : s.Nodup) {c : Card} (hc : isC c = true) : VL.get 0 v (num c).toNat = place s c + 1 := by
  rcases h c hc with ⟨h1, h2⟩ | ⟨q, _, h2, h3⟩
  · rw [h2, place_none fun q => ?_]; rfl
    by_cases hq : q < s.length
    · exact h1 q hq
    · rw [List.getElem?_eq_none (by omega)]; simp
  · rw [h3, place_of hnd h2]
theorem i_linesIn_eq {n : Nat} (hn : BIG ≤ n) {s : List Card} (hl : s.length ≤ 81) (hs : ∀ c, c ∈ s → isC c = true) (hnd : s.Nodup) : i_linesIn n s = some (linesOf s) := by
  unfold i_linesIn
  simp only [lt_eq]
  have b3 : s.length * s.length ≤ 81 * 81 := Nat.mul_le_mul hl hl
  have h3 := linesOf_len (h := s)
  have e : ∀ i : Nat, i < s.length → decide ((i : Int) < (s.length : Int)) = true := fun i h => decide_eq_true (by omega)
  have e' : decide ((s.length : Int) < (s.length : Int)) = false := decide_eq_false (by omega)
  refine fx_up (B := i_linesIn_L3 n) s.length (fun i v => (s, s, (s.length : Int), (i : Int), v)) (fun i v => PlA s i v) (fun _ _ => some (linesOf s)) (fun self i v hi hv hself => ?_) n 0 (VL.rep 81 0) (Nat.zero_le _) (fun c _ => .inl ⟨fun q hq => by omega, VL.get_rep 0 _⟩) (big_gt hn (by omega))
  by_cases hlt : i < s.length
  · have hci : isC s[i] = true := hs _ (List.getElem_mem hlt)
    have hb := num_bd hci
    simp only [i_linesIn_L3, e i hlt, br_true, inb_ok hlt, ckb_true, toNat_cast, gl_eq hlt, i_number_eq hn hci, ob_some, lt_eq]
    rw [w64_succ (by omega), inb_pos hb.1 (by omega)]
    refine hself _ hlt fun c hc => ?_
    rw [VL.get_set 0 v (by omega)]
    by_cases hcc : c = s[i]
    · right
      refine ⟨i, by omega, by rw [List.getElem?_eq_getElem hlt, hcc], ?_⟩
      rw [if_pos (by rw [hcc])]; omega
    · have hne : (num c).toNat ≠ (num s[i]).toNat := fun h => hcc (num_inj hc hci (by have := num_bd hc; omega))
      rw [if_neg hne]
      rcases hv c hc with ⟨h1, h2⟩ | ⟨q, h1, h2, h4⟩
      · refine .inl ⟨fun q hq => ?_, h2⟩
        by_cases hqi : q = i
        · subst hqi; rw [List.getElem?_eq_getElem hlt]; intro h; injection h with h; exact hcc h.symm
        · exact h1 q (by omega)
      · exact .inr ⟨q, by omega, h2, h4⟩
  · have : i = s.length := by omega
    subst this
    simp only [i_linesIn_L3, e', br_false]
    have := fx_app (B := i_linesIn_L2 n) s.length (fun i a => (s, s, (s.length : Int), (i : Int), v, a)) (ln2 s) some 1000000 (fun self i a hi hM => ?_) (fun self a => by simp only [i_linesIn_L2, e', br_false]) n 0 [] (Nat.zero_le _) (big_gt hn (by omega)) (by unfold linesOf at h3; simp only [List.length_nil]; omega)
    · simpa [linesOf] using this
    · simp only [i_linesIn_L2, e i hi, br_true, lt_eq, inb_ok hi, ckb_true, toNat_cast]
      rw [w64_succ (by omega)]
      refine fx_app (B := i_linesIn_L1 n self) s.length (fun j a => (s, (i : Int), (j : Int), s, (s.length : Int), (i : Int), v, a, gl ⟨0, 0, 0, 0⟩ s i)) (ln1 s i) (fun a => self (s, s, (s.length : Int), ((i + 1 : Nat) : Int), v, a)) 1000000 (fun self2 j a hj hM2 => ?_) (fun self2 a => by
        simp only [i_linesIn_L1, e', br_false, lt_eq]; rw [w64_succ (by omega)]) n (i + 1) a (by omega) (big_gt hn (by omega)) (by unfold ln2 at hM; exact hM)
      have hgi := glz_isC hs hi
      have hgj := glz_isC hs hj
      have hth := i_third_eq hn hgi hgj
      have htc := third_isC hgi hgj
      unfold zz at hth htc
      have e5 : third (gl zz s i) (gl zz s j) = third (gl ⟨0, 0, 0, 0⟩ s i) (gl ⟨0, 0, 0, 0⟩ s j) := rfl
      have hnb := num_bd htc
      have hpl := hv.place hnd htc
      have hpb := place_bd (h := s) (c := third (gl ⟨0, 0, 0, 0⟩ s i) (gl ⟨0, 0, 0, 0⟩ s j))
      simp only [i_linesIn_L1, e j hj, br_true, inb_ok hj, ckb_true, toNat_cast, lt_eq, hth, ob_some, i_number_eq hn htc, inb_pos hnb.1 (show num (third (gl ⟨0, 0, 0, 0⟩ s i) (gl ⟨0, 0, 0, 0⟩ s j)) < ((81 : Nat) : Int) by omega), hpl]
      rw [w64_id (x := place s _ + 1 - 1) (by omega), show place s (third (gl ⟨0, 0, 0, 0⟩ s i) (gl ⟨0, 0, 0, 0⟩ s j)) + 1 - 1 = place s (third (gl ⟨0, 0, 0, 0⟩ s i) (gl ⟨0, 0, 0, 0⟩ s j)) by omega]
      unfold ln1 at hM2 ⊢
      rw [e5] at hM2 ⊢
      rw [w64_succ (by omega)]
      by_cases hb : (j : Int) < place s (third (gl ⟨0, 0, 0, 0⟩ s i) (gl ⟨0, 0, 0, 0⟩ s j))
      · rw [if_pos hb] at hM2 ⊢
        simp only [List.length_singleton] at hM2
        rw [apok_ok (by omega) (by omega), decide_eq_true hb]; rfl
      · rw [if_neg hb, decide_eq_false hb]; simp
end Go.Pl
namespace Go.Pl
open Go Go.Tv Go.RowKit
set_option linter.unusedVariables false
abbrev Cu := (List Int) × (Int × Int)
def CuB (c : Cu) : Prop := ∀ x, x ∈ c.1 → 0 ≤ x ∧ x ≤ 255
structure CuOK (m : Nat) (c : Cu) : Prop where
  b : CuB c
  lo : 0 ≤ c.2.1
  hi : c.2.1 ≤ m
theorem CuOK.mono {m m' : Nat} {c : Cu} (h : CuOK m c) (hm : m ≤ m') : CuOK m' c := ⟨h.b, h.lo, by have := h.hi; omega⟩
theorem and255 (x : Int) : 0 ≤ bits .and .u64 x 255 ∧ bits .and .u64 x 255 ≤ 255 := by
  have h : (BitVec.ofInt 64 x &&& BitVec.ofInt 64 255).toNat ≤ 255 := by
    rw [BitVec.toNat_and]
    exact Nat.and_le_right
  have e : bits .and .u64 x 255 = IntKind.u64.wrap ((BitVec.ofInt 64 x &&& BitVec.ofInt 64 255).toNat : Int) := rfl
  rw [e]
  generalize (BitVec.ofInt 64 x &&& BitVec.ofInt 64 255).toNat = q at h
  simp only [IntKind.wrap, IntKind.bits, IntKind.signed]
  simp
  omega
theorem next_J1 (n : Nat) {m : Nat} {c : Cu} (h : CuOK m c) (hm : m < 4611686018427387904) {x : Int} (hx : 0 ≤ x ∧ x ≤ 255) :
    ∃ r c', s_Cur_next'p_J1 n (x, c) = some (r, c') ∧ CuOK (m + 1) c' ∧ 0 ≤ r ∧ r ≤ 255 := by
  have h1 := h.lo; have h2 := h.hi
  unfold s_Cur_next'p_J1
  simp only [lt_eq]
  rw [w64_id (x := c.2.1 + 1) (by omega)]
  rw [br_dec]
  split
  · exact ⟨_, _, rfl, ⟨h.b, by show 0 ≤ c.2.1 + 1; omega, by show c.2.1 + 1 ≤ ((m + 1 : Nat) : Int); omega⟩, hx⟩
  · have h3 := and255 (shrI .u64 (IntKind.wrap .u64 (IntKind.wrap .u64 (IntKind.wrap .u64 (c.2.2 * 6364136223846793005) + IntKind.wrap .u64 x) + 462197)) 40)
    refine ⟨_, _, rfl, ⟨h.b, by show 0 ≤ c.2.1 + 1; omega, by show c.2.1 + 1 ≤ ((m + 1 : Nat) : Int); omega⟩, ?_⟩
    rw [w64_id (by omega)]
    exact h3
theorem next_ok (n : Nat) {m : Nat} {c : Cu} (h : CuOK m c) (hm : m < 4611686018427387904) : ∃ r c', s_Cur_next'p n c = some (r, c') ∧ CuOK (m + 1) c' ∧ 0 ≤ r ∧ r ≤ 255 := by
  unfold s_Cur_next'p
  rw [br_dec]
  split
  · rename_i hlt
    have h1 := h.lo
    obtain ⟨k, hk⟩ : ∃ k : Nat, c.2.1 = k := ⟨c.2.1.toNat, by omega⟩
    have hkl : k < c.1.length := by omega
    rw [ckb_pos (inb_pos h1 hlt)]
    have hb := h.b _ (List.getElem_mem hkl)
    have e : gl 0 c.1 c.2.1.toNat = c.1[k] := by rw [hk, toNat_cast, gl_eq hkl]
    rw [lt_eq, e, w64_id (by omega)]
    exact next_J1 n h hm hb
  · exact next_J1 n h hm (by omega)
theorem pick_ok (n : Nat) {m : Nat} {c : Cu} (h : CuOK m c) (hm : m < 4611686018427387900) {a : Int} (ha : 1 ≤ a) :
    ∃ r c', s_Cur_pick'p n a c = some (r, c') ∧ CuOK (m + 2) c' ∧ 0 ≤ r ∧ r < a := by
  unfold s_Cur_pick'p
  rw [br_dec]
  split
  · exact ⟨0, c, rfl, h.mono (by omega), by omega, by omega⟩
  · obtain ⟨r, c1, e1, h1, hr⟩ := next_ok n h (by omega)
    rw [e1, ob_some, br_dec]
    have hne : (!decide (a = 0)) = true := by simp; omega
    split
    · obtain ⟨r2, c2, e2, h2, hr2⟩ := next_ok n h1 (by omega)
      simp only [lt_eq]
      rw [e2, ob_some, w64_id (x := r * 256) (by omega), w64_id (by omega), ckb_pos hne]
      refine ⟨_, _, rfl, h2, ?_⟩
      rw [Int.tmod_eq_emod_of_nonneg (by omega)]
      exact ⟨Int.emod_nonneg _ (by omega), Int.emod_lt_of_pos _ (by omega)⟩
    · rw [ckb_pos hne, lt_eq]
      refine ⟨_, _, rfl, h1.mono (by omega), ?_⟩
      rw [Int.tmod_eq_emod_of_nonneg (by omega)]
      exact ⟨Int.emod_nonneg _ (by omega), Int.emod_lt_of_pos _ (by omega)⟩
theorem among_ok (n : Nat) {m : Nat} {c : Cu} (h : CuOK m c) (hm : m < 4611686018427387900) {l : List Int} (hl : 1 ≤ l.length) :
    ∃ r c', s_Cur_among'pl n l c = some (r, c') ∧ CuOK (m + 2) c' ∧ r ∈ l := by
  unfold s_Cur_among'pl
  obtain ⟨r, c1, e1, h1, hr0, hr⟩ := pick_ok n h hm (a := (l.length : Int)) (by omega)
  rw [e1, ob_some, ckb_pos (inb_pos hr0 hr)]
  refine ⟨_, _, rfl, h1, ?_⟩
  have hk : r.toNat < l.length := by omega
  rw [gl_eq hk]
  exact List.getElem_mem hk
theorem one_ok (n : Nat) {m : Nat} {c : Cu} (h : CuOK m c) (hm : m < 4611686018427387900) {a : Int} (ha : 1 ≤ a) :
    ∃ r c', s_Cur_one'p n a c = some (r, c') ∧ CuOK (m + 2) c' := by
  unfold s_Cur_one'p
  obtain ⟨r, c1, e1, h1, hr0, hr⟩ := pick_ok n h hm ha
  rw [e1, ob_some]
  exact ⟨_, _, rfl, h1⟩
theorem cu0 {a : List Int} (h : ∀ x, x ∈ a → 0 ≤ x ∧ x ≤ 255) : CuOK 0 (a, (0, 0)) := ⟨h, Int.le_refl _, Int.le_refl _⟩
end Go.Pl
namespace Go.Pl
open Go Go.Tv Go.RowKit
set_option linter.unusedVariables false
def cardAt (r : Int) : Card := ⟨Int.tdiv r 27, Int.tmod (Int.tdiv r 9) 3, Int.tmod (Int.tdiv r 3) 3, Int.tmod r 3⟩
theorem tdm {r : Int} (h : 0 ≤ r) (k : Int) (hk : 0 < k) : Int.tdiv r k = r / k ∧ Int.tmod r k = r % k := ⟨Int.tdiv_eq_ediv_of_nonneg h, Int.tmod_eq_emod_of_nonneg h⟩
theorem cardAt_e {r : Int} (h : 0 ≤ r) : cardAt r = ⟨r / 27, r / 9 % 3, r / 3 % 3, r % 3⟩ := by
  unfold cardAt
  rw [(tdm h 27 (by decide)).1, (tdm h 9 (by decide)).1, (tdm h 3 (by decide)).1, (tdm h 3 (by decide)).2, (tdm (r := r / 9) (by omega) 3 (by decide)).2, (tdm (r := r / 3) (by omega) 3 (by decide)).2]
theorem cardAt_isC {r : Int} (h : 0 ≤ r ∧ r ≤ 80) : isC (cardAt r) = true := by
  rw [cardAt_e h.1, isC_iff]
  refine ⟨⟨?_, ?_⟩, ⟨?_, ?_⟩, ⟨?_, ?_⟩, ?_, ?_⟩ <;> show _ ≤ _ <;> simp only [] <;> omega
theorem s_l2At_eq (n : Nat) {r : Int} (h : 0 ≤ r ∧ r ≤ 80) : s_l2At n r = some (cardAt r) := by
  unfold s_l2At cardAt
  simp only [lt_eq]
  have e := tdm h.1 27 (by decide); have e1 := tdm h.1 9 (by decide); have e2 := tdm h.1 3 (by decide)
  rw [w64_id (x := Int.tdiv r 27) (by rw [e.1]; omega), w64_id (x := Int.tdiv r 9) (by rw [e1.1]; omega), w64_id (x := Int.tdiv r 3) (by rw [e2.1]; omega)]
end Go.Pl
namespace Go.Pl
open Go Go.Tv Go.RowKit
end Go.Pl
namespace Go.Pl
open Go Go.Tv Go.RowKit
def cardN (k : Nat) : Card := ⟨((k / 27 : Nat) : Int), ((k / 9 % 3 : Nat) : Int), ((k / 3 % 3 : Nat) : Int), ((k % 3 : Nat) : Int)⟩
def cards81 : List Card := (List.range 81).map cardN
theorem mem_cards81 {c : Card} (h : isC c = true) : c ∈ cards81 := by
  rw [isC_iff] at h
  obtain ⟨c0, c1, c2, c3⟩ := c
  simp only at h
  refine List.mem_map.2 ⟨(27 * c0 + 9 * c1 + 3 * c2 + c3).toNat, by rw [List.mem_range]; omega, ?_⟩
  unfold cardN
  congr 1 <;> omega
end Go.Pl

/- Plain laws: LCd. -/
import Derived.Test.YtbkbkaonjhlplaaLLMs
import Derived.Test.YtbkbkaonjhlplaaLLSum
import Derived.Test.YtbkbkaonjhlplaaLLC
import Derived.Test.YtbkbkaonjhlplaaLLLa
import Derived.Test.YtbkbkaonjhlplaaPL
set_option linter.unusedVariables false
set_option linter.unusedSimpArgs false
namespace Go.Pl
open Go Go.Tv Go.RowKit
set_option linter.unusedVariables false

/-! codes -/
/-- a table -/
def tb {α : Type} (N : Nat) (f : Nat → α) : List α := (List.range' 0 (N - 0)).map f
theorem tb_len {α : Type} (N : Nat) (f : Nat → α) : (tb N f).length = N := by simp [tb]
theorem tb_get {α : Type} {N : Nat} {f : Nat → α} {i : Nat} (h : i < (tb N f).length) : (tb N f)[i] = f i := by unfold tb; simp
theorem tb_gl {α : Type} {z : α} {N : Nat} {f : Nat → α} {i : Nat} (h : i < N) : gl z (tb N f) i = f i := by
  rw [gl_eq (by rw [tb_len]; exact h), tb_get]
theorem tb_congr {α : Type} {N : Nat} {f g : Nat → α} (h : ∀ i, i < N → f i = g i) : tb N f = tb N g := by
  refine List.ext_getElem (by rw [tb_len, tb_len]) fun i h1 h2 => ?_
  rw [tb_get, tb_get]
  rw [tb_len] at h1
  exact h i h1
theorem tb_set {α : Type} {N : Nat} {f : Nat → α} {i : Nat} (v : α) : (tb N f).set i v = tb N fun k => if k = i then v else f k := by
  refine List.ext_getElem (by simp [tb_len]) fun k h1 h2 => ?_
  rw [List.getElem_set, tb_get]
  by_cases hk : i = k
  · subst hk; rw [if_pos rfl, tb_get, if_pos rfl]
  · have : ¬ k = i := fun e => hk e.symm
    rw [if_neg hk, tb_get, if_neg this]
theorem tb_of {α : Type} (z : α) (l : List α) : l = tb l.length fun i => gl z l i := by
  refine List.ext_getElem (by rw [tb_len]) fun i h1 h2 => ?_
  rw [tb_get, gl_eq h1]
theorem tb_map {α β : Type} (g : α → β) (N : Nat) (f : Nat → α) : (tb N f).map g = tb N fun i => g (f i) := by unfold tb; rw [List.map_map]; rfl

def wAB (a b : Int) : Card := ⟨a, Int.tmod (w64 (a + b)) 3, Int.tmod (w64 (a + w64 (2 * b))) 3, b⟩
theorem s_l11Word_eq (n : Nat) (a b : Int) : s_l11Word n a b = some (wAB a b) := rfl
theorem i_codeword_eq (n : Nat) (a b : Int) : i_codeword n a b = some (wAB a b) := rfl
def wV (v : Int) : Card := wAB (w64 (Int.tdiv v 3)) (Int.tmod v 3)
def in8 (x : Int) : Bool := decide (0 ≤ x ∧ x ≤ 8)
def isMsg (l : List Int) : Bool := l.all in8 && decide (l.length ≤ 27)
theorem all8_eq {n : Nat} (hn : BIG ≤ n) {l : List Int} (hl : l.length ≤ 1099511627776) : i_allWithin n l 0 8 = some (l.all in8) := by
  unfold i_allWithin slices_ContainsFunc_Sint_int_'l_i_allWithin_1pp slices_IndexFunc_Sint_int_'l_i_allWithin_1pp
  have := fx_find (B := slices_IndexFunc_Sint_int_'l_i_allWithin_1pp_L1 n) l (fun i => (l, (l.length : Int), (i : Int), (0 : Int), (8 : Int))) (fun x => !in8 x) (fun i => some ((i : Int), (0 : Int), (8 : Int))) (some (-1, 0, 8)) (fun self i hi => ?_) (fun self => ?_) n (big_gt hn (by omega))
  · rw [show fx (slices_IndexFunc_Sint_int_'l_i_allWithin_1pp_L1 n) n (l, (l.length : Int), 0, 0, 8) = _ from this]
    have ha := findIdx?_any l fun x => !in8 x
    cases hf : l.findIdx? (fun x => !in8 x) with
    | none =>
      rw [hf] at ha
      simp only [ob_some]
      have : l.all in8 = true := by rw [List.all_eq_not_any_not, ← ha]; rfl
      rw [this]; rfl
    | some i =>
      rw [hf] at ha
      simp only [ob_some]
      have : l.all in8 = false := by rw [List.all_eq_not_any_not, ← ha]; rfl
      rw [this]; simp
  · simp only [slices_IndexFunc_Sint_int_'l_i_allWithin_1pp_L1, lt_eq, i_allWithin_1'pp, i_within_eq, ob_some]
    rw [br_pos (decide_eq_true (show (i : Int) < (l.length : Int) by omega)), ckb_pos (inb_ok hi), toNat_cast, gl_eq hi, w64_succ (by omega)]
    show br (!in8 l[i]) _ _ = _
    cases in8 l[i] <;> simp
  · simp only [slices_IndexFunc_Sint_int_'l_i_allWithin_1pp_L1]
    rw [br_neg (decide_eq_false (by omega))]
theorem s_l11Message_eq {n : Nat} (hn : BIG ≤ n) {l : List Int} (hl : l.length ≤ 1099511627776) : s_l11Message n l = some (isMsg l) := by
  unfold s_l11Message isMsg
  have := fx_cnt (B := s_l11Message_L1 n) l.length (fun i => (l, (i : Int))) (fun _ => True) (fun i => some ((l.drop i).all in8 && decide (l.length ≤ 27))) (fun self i hi _ ih => by
    simp only [s_l11Message_L1, br_some, ob_some]
    by_cases h : i < l.length
    · rw [decide_eq_true (show (i : Int) < (l.length : Int) by omega)]
      by_cases h27 : i ≤ 27
      · rw [decide_eq_true (show (i : Int) ≤ 27 by omega)]
        simp only [if_true, br_true]
        rw [ckb_pos (inb_ok h), toNat_cast, gl_eq h, s_l1In_eq, ob_some, lt_eq, w64_succ (by omega), ih h trivial, drop_cons h, List.all_cons]
        show br (!in8 l[i]) _ _ = _
        cases in8 l[i] <;> simp
      · rw [decide_eq_false (show ¬ (i : Int) ≤ 27 by omega)]
        simp only [if_true, br_false]
        rw [decide_eq_false (show ¬ (l.length : Int) ≤ 27 by omega), decide_eq_false (show ¬ l.length ≤ 27 by omega), Bool.and_false]
    · rw [decide_eq_false (show ¬ (i : Int) < (l.length : Int) by omega)]
      simp only [Bool.false_eq_true, if_false, br_false]
      rw [List.drop_eq_nil_of_le (by omega)]
      have e2 : decide ((l.length : Int) ≤ 27) = decide (l.length ≤ 27) := by congr 1; apply propext; omega
      simp [e2]) n 0 (Nat.zero_le _) trivial (big_gt hn (by omega))
  simpa using this
def SM (l : List Int) : Bool × List Card := if isMsg l then (true, l.map wV) else (false, [])
theorem fx_mapL {σ ρ α β : Type} {B : (σ → Opt ρ) → σ → Opt ρ} (l : List α) (st : Nat → List β → σ) (f : α → β) (fin : List β → Opt ρ)
    (step : ∀ self i a (h : i < l.length), a.length = i → B self (st i a) = self (st (i + 1) (a ++ [f l[i]]))) (stop : ∀ self a, B self (st l.length a) = fin a) (n : Nat) (hn : l.length < n) : fx B n (st 0 []) = fin (l.map f) := by
  have h := fx_foldl (B := B) l st (fun a x => a ++ [f x]) fin (fun i a => a.length = i) (fun i a h hi => by rw [List.length_append, List.length_singleton, hi]) (fun self i a h hi => step self i a h hi) (fun self a _ => stop self a) n hn [] rfl
  rw [h]
  congr 1
  have : ∀ (l : List α) (a : List β), l.foldl (fun a x => a ++ [f x]) a = a ++ l.map f := by
    intro l
    induction l with
    | nil => intro a; simp
    | cons x l ih => intro a; rw [List.foldl_cons, ih]; simp
  rw [this]; simp
theorem i_SendMessage_eq {n : Nat} (hn : BIG ≤ n) {l : List Int} (hl : l.length ≤ 1048576) : i_SendMessage n l = some (SM l) := by
  unfold i_SendMessage SM
  rw [all8_eq hn (by omega)]
  simp only [ob_some, br_some]
  have ec : (if decide (27 < (l.length : Int)) = true then true else !l.all in8) = !isMsg l := by
    unfold isMsg
    by_cases h : l.length ≤ 27
    · rw [decide_eq_false (show ¬ 27 < (l.length : Int) by omega), decide_eq_true h]; simp
    · rw [decide_eq_true (show 27 < (l.length : Int) by omega), decide_eq_false h]; simp
  rw [ec]
  cases isMsg l with
  | false => rfl
  | true =>
    rw [Bool.not_true, br_false, if_pos rfl]
    refine fx_mapL (B := i_SendMessage_L1 n) l (fun i a => (l, (l.length : Int), (i : Int), a)) wV (fun a => some (true, a)) (fun self i a hi ha => ?_) (fun self a => ?_) n (big_gt hn (by omega))
    · simp only [i_SendMessage_L1, lt_eq]
      rw [br_pos (decide_eq_true (show (i : Int) < (l.length : Int) by omega)), ckb_pos (inb_ok hi), toNat_cast, gl_eq hi, i_codeword_eq, ob_some, ckb_pos (apok_ok (by omega) (by omega)), w64_succ (by omega)]; rfl
    · simp only [i_SendMessage_L1]
      rw [br_neg (decide_eq_false (by omega))]
theorem s_SendMessage_eq {n : Nat} (hn : BIG ≤ n) {l : List Int} (hl : l.length ≤ 1048576) : s_SendMessage n l = some (SM l) := by
  unfold s_SendMessage SM
  rw [s_l11Message_eq hn (by omega), ob_some]
  cases isMsg l with
  | false => rfl
  | true =>
    rw [Bool.not_true, br_false, if_pos rfl]
    refine fx_mapL (B := s_SendMessage_L1 n) l (fun i a => (l, (i : Int), a)) wV (fun a => some (true, a)) (fun self i a hi ha => ?_) (fun self a => ?_) n (big_gt hn (by omega))
    · simp only [s_SendMessage_L1, lt_eq]
      rw [br_pos (decide_eq_true (show (i : Int) < (l.length : Int) by omega)), ckb_pos (inb_ok hi), ckb_pos (inb_ok hi), toNat_cast, gl_eq hi, s_l11Word_eq, ob_some, ckb_pos (apok_ok (by omega) (by omega)), w64_succ (by omega)]; rfl
    · simp only [s_SendMessage_L1]
      rw [br_neg (decide_eq_false (by omega))]

/-! distances -/
theorem dif_bd' (a b : Card) : 0 ≤ dif a b ∧ dif a b ≤ 4 := by
  have e : ∀ x y : Int, 0 ≤ d1 x y ∧ d1 x y ≤ 1 := fun x y => by unfold d1; split <;> omega
  have := e a.x0 b.x0; have := e a.x1 b.x1; have := e a.x2 b.x2; have := e a.x3 b.x3
  unfold dif; omega
def dN (a b : Card) : Nat := (dif a b).toNat
theorem dN_cast (a b : Card) : (dN a b : Int) = dif a b := by have := dif_bd' a b; unfold dN; omega
def cds (a b : List Card) : Nat := S a.length fun i => dN (gl ⟨0, 0, 0, 0⟩ a i) (gl ⟨0, 0, 0, 0⟩ b i)
def cdOK (a b : List Card) : Bool := decide (a.length ≤ 27) && decide (a.length = b.length) && a.all isC && b.all isC
def CD (a b : List Card) : Int × Bool := if cdOK a b then ((cds a b : Int), true) else (0, false)
theorem i_CodeDistance_eq {n : Nat} (hn : BIG ≤ n) {a b : List Card} (ha : a.length ≤ 1048576) (hb : b.length ≤ 1048576) : i_CodeDistance n a b = some (CD a b) := by
  unfold i_CodeDistance CD
  rw [i_areCards_eq hn (by omega), i_areCards_eq hn (by omega)]
  simp only [ob_some, br_some]
  have ec : (if (if (if decide (27 < (a.length : Int)) = true then true else !decide ((a.length : Int) = (b.length : Int))) = true then true else !a.all isC) = true then true else !b.all isC) = !cdOK a b := by
    unfold cdOK
    have e2 : decide ((a.length : Int) = (b.length : Int)) = decide (a.length = b.length) := by congr 1; apply propext; omega
    rw [e2]
    by_cases h : a.length ≤ 27
    · rw [decide_eq_false (show ¬ 27 < (a.length : Int) by omega), decide_eq_true h]
      cases decide (a.length = b.length) <;> cases a.all isC <;> cases b.all isC <;> rfl
    · rw [decide_eq_true (show 27 < (a.length : Int) by omega), decide_eq_false h]; simp
  rw [ec]
  cases hc : cdOK a b with
  | false => rfl
  | true =>
    unfold cdOK at hc
    simp only [Bool.and_eq_true, decide_eq_true_eq] at hc
    obtain ⟨⟨⟨h27, hab⟩, _⟩, _⟩ := hc
    rw [Bool.not_true, br_false, if_pos rfl]
    have hbd : ∀ i, (S i fun i => dN (gl ⟨0, 0, 0, 0⟩ a i) (gl ⟨0, 0, 0, 0⟩ b i)) ≤ i * 4 := fun i => by
      rw [← S_const]
      exact S_le fun j _ => by have := dif_bd' (gl ⟨0, 0, 0, 0⟩ a j) (gl ⟨0, 0, 0, 0⟩ b j); have := dN_cast (gl ⟨0, 0, 0, 0⟩ a j) (gl ⟨0, 0, 0, 0⟩ b j); omega
    refine fx_cnt (B := i_CodeDistance_L1 n) a.length (fun i => (b, ((S i fun i => dN (gl ⟨0, 0, 0, 0⟩ a i) (gl ⟨0, 0, 0, 0⟩ b i) : Nat) : Int), a, (a.length : Int), (i : Int))) (fun _ => True) (fun _ => some ((cds a b : Int), true)) (fun self i hi _ ih => ?_) n 0 (Nat.zero_le _) trivial (big_gt hn (by omega))
    simp only [i_CodeDistance_L1, lt_eq]
    by_cases h : i < a.length
    · have b1 := hbd i
      have ih := ih h trivial
      rw [S] at ih
      rw [br_pos (decide_eq_true (show (i : Int) < (a.length : Int) by omega)), ckb_pos (inb_ok h), ckb_pos (inb_ok (by omega)), toNat_cast, i_differ_eq hn, ob_some, ← dN_cast, w64_succ (by omega)]
      have b2' := dif_bd' (gl ⟨0, 0, 0, 0⟩ a i) (gl ⟨0, 0, 0, 0⟩ b i)
      have b3 := dN_cast (gl ⟨0, 0, 0, 0⟩ a i) (gl ⟨0, 0, 0, 0⟩ b i)
      rw [w64_id (by omega)]
      exact ih
    · have : i = a.length := by omega
      subst this
      rw [br_neg (decide_eq_false (by omega))]; rfl
theorem s_CodeDistance_eq {n : Nat} (hn : BIG ≤ n) {a b : List Card} (ha : a.length ≤ 1048576) (hb : b.length ≤ 1048576) : s_CodeDistance n a b = some (CD a b) := by
  unfold s_CodeDistance CD
  rw [s_l11Cards_eq hn (by omega), s_l11Cards_eq hn (by omega)]
  simp only [ob_some, br_some]
  have ec : (if (if (!(a.all isC && decide (a.length ≤ 27))) = true then true else !(b.all isC && decide (b.length ≤ 27))) = true then true else !decide ((a.length : Int) = (b.length : Int))) = !cdOK a b := by
    unfold cdOK
    have e2 : decide ((a.length : Int) = (b.length : Int)) = decide (a.length = b.length) := by congr 1; apply propext; omega
    rw [e2]
    by_cases hab : a.length = b.length
    · rw [decide_eq_true hab, hab]
      cases decide (b.length ≤ 27) <;> cases a.all isC <;> cases b.all isC <;> rfl
    · rw [decide_eq_false hab]
      simp
  rw [ec]
  cases hc : cdOK a b with
  | false => rfl
  | true =>
    unfold cdOK at hc
    simp only [Bool.and_eq_true, decide_eq_true_eq] at hc
    obtain ⟨⟨⟨h27, hab⟩, _⟩, _⟩ := hc
    rw [Bool.not_true, br_false, if_pos rfl]
    have hbd : ∀ i, (S i fun i => dN (gl ⟨0, 0, 0, 0⟩ a i) (gl ⟨0, 0, 0, 0⟩ b i)) ≤ i * 4 := fun i => by
      rw [← S_const]
      exact S_le fun j _ => by have := dif_bd' (gl ⟨0, 0, 0, 0⟩ a j) (gl ⟨0, 0, 0, 0⟩ b j); have := dN_cast (gl ⟨0, 0, 0, 0⟩ a j) (gl ⟨0, 0, 0, 0⟩ b j); omega
    refine fx_cnt (B := s_CodeDistance_L1 n) a.length (fun i => (a, b, ((S i fun i => dN (gl ⟨0, 0, 0, 0⟩ a i) (gl ⟨0, 0, 0, 0⟩ b i) : Nat) : Int), (i : Int))) (fun _ => True) (fun _ => some ((cds a b : Int), true)) (fun self i hi _ ih => ?_) n 0 (Nat.zero_le _) trivial (big_gt hn (by omega))
    simp only [s_CodeDistance_L1, lt_eq]
    by_cases h : i < a.length
    · have b1 := hbd i
      have ih := ih h trivial
      rw [S] at ih
      rw [br_pos (decide_eq_true (show (i : Int) < (a.length : Int) by omega)), ckb_pos (inb_ok h), ckb_pos (inb_ok (by omega)), toNat_cast, s_l2Differ_eq hn, ob_some, ← dN_cast, w64_succ (by omega)]
      have b2' := dif_bd' (gl ⟨0, 0, 0, 0⟩ a i) (gl ⟨0, 0, 0, 0⟩ b i)
      have b3 := dN_cast (gl ⟨0, 0, 0, 0⟩ a i) (gl ⟨0, 0, 0, 0⟩ b i)
      rw [w64_id (by omega)]
      exact ih
    · have : i = a.length := by omega
      subst this
      rw [br_neg (decide_eq_false (by omega))]; rfl

/-! few inputs: the 81 cards, the nine words -/
def cwList : List Card := [⟨0, 0, 0, 0⟩, ⟨0, 1, 2, 1⟩, ⟨0, 2, 1, 2⟩, ⟨1, 0, 2, 2⟩, ⟨1, 1, 1, 0⟩, ⟨1, 2, 0, 1⟩, ⟨2, 0, 1, 1⟩, ⟨2, 1, 0, 2⟩, ⟨2, 2, 2, 0⟩]
noncomputable def ckCw (m : Nat) : Bool := decide (i_Codewords (m + 64) = some cwList) && decide (s_Codewords (m + 64) = some cwList)
theorem ckCw_ok (m : Nat) : ckCw m = true := by kernel_rfl
noncomputable def ckCard (m : Nat) : Bool := cards81.all fun c => match nearV (m + 64) c with
  | (w, t) => decide (dif w c = if 0 ≤ t then 1 else 0) && decide (wV (wordN w) = w) && in8 (wordN w) && (eqd (wAB c.x0 c.x3) c == decide (t < 0)) && okB (v_FnCodes_J2 (m + 64) (true, c, w, cwList))
theorem ckCard_ok (m : Nat) : ckCard m = true := by kernel_rfl
def spo (c : Card) (i : Nat) : Card := V4.set c (i % 4) (Int.tmod (w64 (V4.get c (i % 4) + Int.tmod (i : Int) 3)) 3)
noncomputable def ckSp (m : Nat) : Bool := (List.range 9).all fun v => decide ((nearV (m + 64) (wV v)).2 < 0) && isC (wV v) && (List.range 27).all fun i => isC (spo (wV v) i) && decide (wordN (nearV (m + 64) (spo (wV v) i)).1 = (v : Int)) && decide (wordN (nearV (m + 64) (wV v)).1 = (v : Int))
theorem ckSp_ok (m : Nat) : ckSp m = true := by kernel_rfl
end Go.Pl

/- Plain laws: L11, L4L, LShL, R29, R36, LHc, L12. -/
import Derived.Test.YtkhfihbaopbblaaGreatDoorG0
import Derived.Test.YtkhfihbaopbblaaGreatDoorG1
import Derived.Test.YtkhfihbaopbblaaGreatDoorG2
import Derived.Test.YtkhfihbaopbblaaGreatDoorG6
import Derived.KernelRfl
import Derived.Test.YtkhfihbaopbblaaGreatDoorG8
import Derived.Test.YtkhfihbaopbblaaGreatDoorPL
set_option linter.unusedVariables false
set_option linter.unusedSimpArgs false
namespace Go.Pl
open Go Go.Tv Go.RowKit
end Go.Pl
namespace Go.Pl
open Go Go.Tv Go.RowKit
set_option linter.unusedVariables false
def z4 : Card := ⟨0, 0, 0, 0⟩
def lnAt (s : List Card) (i j k : Nat) : Bool := lineB (gl z4 s i) (gl z4 s j) (gl z4 s k)
def l1 (s : List Card) (i j k : Nat) : List (V3 Int) := if lnAt s i j k = true then [⟨i, j, k⟩] else []
def l2 (s : List Card) (i j : Nat) : List (V3 Int) := (List.range' (j + 1) (s.length - (j + 1))).flatMap (l1 s i j)
def l3 (s : List Card) (i : Nat) : List (V3 Int) := (List.range' (i + 1) (s.length - (i + 1))).flatMap (l2 s i)
def lns (s : List Card) : List (V3 Int) := (List.range' 0 (s.length - 0)).flatMap (l3 s)
theorem l1_len {s : List Card} {i j k : Nat} : (l1 s i j k).length ≤ 1 := by unfold l1; split <;> simp
theorem l2_len {s : List Card} {i j : Nat} : (l2 s i j).length ≤ s.length := by
  have := flen (l := List.range' (j + 1) (s.length - (j + 1))) (f := l1 s i j) (M := 1) fun _ _ => l1_len
  rw [List.length_range', Nat.mul_one] at this
  unfold l2; omega
theorem l3_len {s : List Card} {i : Nat} : (l3 s i).length ≤ s.length * s.length := by
  have := flen (l := List.range' (i + 1) (s.length - (i + 1))) (f := l2 s i) (M := s.length) fun _ _ => l2_len
  unfold l3
  refine Nat.le_trans this (Nat.mul_le_mul_right _ ?_)
  rw [List.length_range']; omega
theorem lns_len {s : List Card} : (lns s).length ≤ s.length * (s.length * s.length) := by
  have := flen (l := List.range' 0 (s.length - 0)) (f := l3 s) (M := s.length * s.length) fun _ _ => l3_len
  rw [List.length_range', Nat.sub_zero] at this
  unfold lns; exact this
theorem gl_isC {s : List Card} (hs : ∀ c, c ∈ s → isC c = true) {i : Nat} (h : i < s.length) : isC (gl z4 s i) = true := by
  rw [gl_eq h]; exact hs _ (List.getElem_mem h)
end Go.Pl
namespace Go.Pl
open Go Go.Tv Go.RowKit
set_option linter.unusedVariables false
theorem visit_eq {n : Nat} (hn : BIG ≤ n) {s : List Card} (hs : ∀ c, c ∈ s → isC c = true) {i j k : Nat} (hi : i < s.length) (hj : j < s.length) (hk : k < s.length) {a : Int} (h0 : 0 ≤ a) (ha : a ≤ 1000000000) :
    i_ShadowLines_1'lpp_o n [(i : Int), (j : Int), (k : Int)] a s = some (a + ((l1 s i j k).length : Nat), s) := by
  unfold i_ShadowLines_1'lpp_o
  have e0 : gl (0 : Int) [(i : Int), (j : Int), (k : Int)] 0 = i := rfl
  have e1 : gl (0 : Int) [(i : Int), (j : Int), (k : Int)] 1 = j := rfl
  have e2 : gl (0 : Int) [(i : Int), (j : Int), (k : Int)] 2 = k := rfl
  have hln := i_isLine_eq hn (gl z4 s k) (gl_isC hs hi) (gl_isC hs hj)
  have e5 : lineB (gl z4 s i) (gl z4 s j) (gl z4 s k) = lnAt s i j k := rfl
  unfold z4 at hln e5
  have f0 : inb 0 [(i : Int), (j : Int), (k : Int)].length = true := rfl
  have f1 : inb 1 [(i : Int), (j : Int), (k : Int)].length = true := rfl
  have f2 : inb 2 [(i : Int), (j : Int), (k : Int)].length = true := rfl
  simp only [e0, e1, e2, f0, f1, f2, inb_ok hi, inb_ok hj, inb_ok hk, ckb_true, toNat_cast, hln, e5, ob_some, lt_eq]
  unfold l1
  cases hb : lnAt s i j k with
  | false => simp
  | true => simp [w64_id (x := a + 1) (by omega)]
theorem sum_len {α : Type} (f : Nat → List α) (l : List Nat) : (l.map fun i => (f i).length).sum = (l.flatMap f).length := by
  rw [List.length_flatMap]
theorem slb_full {n : Nat} : slb 0 (n : Int) n = true := slb_ok (by omega) (by omega) (by omega)
theorem sub_full {α : Type} (l : List α) : sub l 0 l.length = l := by simp [sub]
section
variable {n : Nat} (hn : BIG ≤ n) {s : List Card} (hl : s.length ≤ 81) (hs : ∀ c, c ∈ s → isC c = true)
include hn hs in
theorem ch0 {i j k : Nat} (hi : i < s.length) (hj : j < s.length) (hk : k < s.length) {a : Int} (h0 : 0 ≤ a) (ha : a ≤ 1000000000) (q : Nat) :
    fx (i_choices'l_i_ShadowLines_1pp_o_R n) (q + 1) ([(i : Int), (j : Int), (k : Int)], 0, (s.length : Int), a, s) = some (a + ((l1 s i j k).length : Nat), s) := by
  rw [fx_succ]
  simp only [i_choices'l_i_ShadowLines_1pp_o_R, decide_true, br_true, visit_eq hn hs hi hj hk h0 ha, ob_some]
theorem ch_loop {n : Nat} (hn : BIG ≤ n) {s : List Card} (hl : s.length ≤ 81) (l : List Int) (hll : l.length ≤ 3) (many : Int) (hm : 1 ≤ many ∧ many ≤ 3) (go : (List Int) × Int × Int × Int × (List (V4 Int)) → Option (Int × (List (V4 Int)))) (g : Nat → Nat) (M : Int)
    (hgo : ∀ i a, i < s.length → 0 ≤ a → a + g i ≤ M → go (l ++ [(i : Int)], many - 1, (s.length : Int), a, s) = some (a + g i, s)) (from_ : Nat) (hf : from_ ≤ s.length) {a : Int} (h0 : 0 ≤ a) (hM : a + (((List.range' from_ (s.length - from_)).map g).sum : Nat) ≤ M) :
    i_choices'l_i_ShadowLines_1pp_o_J2 n go (l, many, (s.length : Int), (from_ : Int), a, s) = some (a + (((List.range' from_ (s.length - from_)).map g).sum : Nat), s) := by
  unfold i_choices'l_i_ShadowLines_1pp_o_J2
  refine fx_sum (B := i_choices'l_i_ShadowLines_1pp_o_L1 n go) s.length (fun i a => (l, many, (s.length : Int), (i : Int), a, s)) g (fun a => some (a, s)) M (fun self i a hi h0 hM => ?_) (fun self a _ _ => ?_) n from_ a hf (big_gt hn (by omega)) h0 hM
  · have e1 : decide ((i : Int) < (s.length : Int)) = true := decide_eq_true (by omega)
    have e2 : decide ((l.length : Int) = (l.length : Int)) = true := decide_eq_true rfl
    have e3 : apok 8 (l.length + 1) = true := apok_ok (by omega) (by omega)
    have e4 : cor l.isEmpty true = true := by cases l.isEmpty <;> rfl
    have e5 : w64 (many - 1) = many - 1 := w64_id (by omega)
    simp only [i_choices'l_i_ShadowLines_1pp_o_L1, e1, br_true, slb_full, e2, sub_full, e3, e4, cand, decide_true, ckb_true, lt_eq, e5, hgo i a hi h0 hM, ob_some]
    rw [w64_succ (by omega)]
  · have e1 : decide ((s.length : Int) < (s.length : Int)) = false := decide_eq_false (by omega)
    simp only [i_choices'l_i_ShadowLines_1pp_o_L1, e1, br_false]
include hn hl hs in
theorem ch1 {i j : Nat} (hi : i < s.length) (hj : j < s.length) {a : Int} (h0 : 0 ≤ a) (ha : a ≤ 100000000) (q : Nat) :
    fx (i_choices'l_i_ShadowLines_1pp_o_R n) (q + 2) ([(i : Int), (j : Int)], 1, (s.length : Int), a, s) = some (a + ((l2 s i j).length : Nat), s) := by
  rw [fx_succ]
  have e1 : decide ((1 : Int) = 0) = false := by decide
  have e2 : decide ((0 : Int) < ([(i : Int), (j : Int)].length : Int)) = true := by simp
  have e3 : w64 (([(i : Int), (j : Int)].length : Int) - 1) = 1 := by simp
  have e4 : inb 1 [(i : Int), (j : Int)].length = true := rfl
  have e5 : gl (0 : Int) [(i : Int), (j : Int)] (1 : Int).toNat = j := rfl
  simp only [i_choices'l_i_ShadowLines_1pp_o_R, e1, br_false, e2, br_true, lt_eq, e3, e4, ckb_true, e5]
  rw [w64_succ (by omega)]
  have h2 := l2_len (s := s) (i := i) (j := j)
  have := ch_loop hn hl [(i : Int), (j : Int)] (by simp) 1 (by omega) (fx (i_choices'l_i_ShadowLines_1pp_o_R n) (q + 1)) (fun k => (l1 s i j k).length) 1000000000 (fun k a hk h0 hM => ch0 hn hs hi hj hk h0 (by have := l1_len (s := s) (i := i) (j := j) (k := k); omega) q) (j + 1) (by omega) h0 (by
    rw [sum_len]; unfold l2 at h2; omega)
  rw [this, sum_len]; rfl
include hn hl hs in
theorem ch2 {i : Nat} (hi : i < s.length) {a : Int} (h0 : 0 ≤ a) (ha : a ≤ 10000000) (q : Nat) :
    fx (i_choices'l_i_ShadowLines_1pp_o_R n) (q + 3) ([(i : Int)], 2, (s.length : Int), a, s) = some (a + ((l3 s i).length : Nat), s) := by
  rw [fx_succ]
  have e1 : decide ((2 : Int) = 0) = false := by decide
  have e2 : decide ((0 : Int) < ([(i : Int)].length : Int)) = true := by simp
  have e3 : w64 (([(i : Int)].length : Int) - 1) = 0 := by simp
  have e4 : inb 0 [(i : Int)].length = true := rfl
  have e5 : gl (0 : Int) [(i : Int)] (0 : Int).toNat = i := rfl
  simp only [i_choices'l_i_ShadowLines_1pp_o_R, e1, br_false, e2, br_true, lt_eq, e3, e4, ckb_true, e5]
  rw [w64_succ (by omega)]
  have h2 := l3_len (s := s) (i := i)
  have b3 : s.length * s.length ≤ 81 * 81 := Nat.mul_le_mul hl hl
  have := ch_loop hn hl [(i : Int)] (by simp) 2 (by omega) (fx (i_choices'l_i_ShadowLines_1pp_o_R n) (q + 2)) (fun j => (l2 s i j).length) 100000000 (fun j a hj h0 hM => ch1 hn hl hs hi hj h0 (by have := l2_len (s := s) (i := i) (j := j); omega) q) (i + 1) (by omega) h0 (by
    rw [sum_len]; unfold l3 at h2; omega)
  rw [this, sum_len]; rfl
include hn hl hs in
theorem ch3 (q : Nat) : fx (i_choices'l_i_ShadowLines_1pp_o_R n) (q + 4) ([], 3, (s.length : Int), 0, s) = some ((((lns s).length : Nat) : Int), s) := by
  rw [fx_succ]
  have e1 : decide ((3 : Int) = 0) = false := by decide
  have e2 : decide ((0 : Int) < (([] : List Int).length : Int)) = false := by simp
  simp only [i_choices'l_i_ShadowLines_1pp_o_R, e1, br_false, e2]
  have h2 := lns_len (s := s)
  have b3 : s.length * (s.length * s.length) ≤ 81 * (81 * 81) := Nat.mul_le_mul hl (Nat.mul_le_mul hl hl)
  have := ch_loop hn hl [] (by simp) 3 (by omega) (fx (i_choices'l_i_ShadowLines_1pp_o_R n) (q + 3)) (fun i => (l3 s i).length) 10000000 (fun i a hi h0 hM => ch2 hn hl hs hi h0 (by omega) q) 0 (by omega) (a := 0) (by omega) (by
    rw [sum_len]; unfold lns at h2; omega)
  have e : ((0 : Nat) : Int) = 0 := rfl
  rw [e] at this
  rw [this, sum_len]; unfold lns; simp
end
end Go.Pl
namespace Go.Pl
open Go Go.Tv Go.RowKit
set_option linter.unusedVariables false
end Go.Pl
namespace Go.Pl
open Go Go.Tv Go.RowKit
set_option linter.unusedVariables false
def ones (m : Nat) : Nat := m % 2 + m / 2 % 2 + m / 4 % 2 + m / 8 % 2
def key (m : Nat) : Nat := 16 * ones m + m
end Go.Pl
namespace Go.Pl
open Go Go.Tv Go.RowKit
set_option linter.unusedVariables false
set_option linter.unusedSimpArgs false
theorem s_sum_step {n : Nat} (hn : BIG ≤ n) (go : List Card × Int × Card × Card → Opt Card) (h : List Card) (z : Card) {a : Card} {i : Nat} (hi : i < h.length) (hl : h.length ≤ 1000000) (hc : isC (gl (⟨0, 0, 0, 0⟩ : Card) h i) = true) (ha : isC a = true) :
    fx (s_l2Sum_L1 n go) n (h, (i : Int), 0, z, a) = go (h, (i : Int) + 1, z, ⟨(a.x0 + (gl (⟨0, 0, 0, 0⟩ : Card) h i).x0) % 3, (a.x1 + (gl (⟨0, 0, 0, 0⟩ : Card) h i).x1) % 3, (a.x2 + (gl (⟨0, 0, 0, 0⟩ : Card) h i).x2) % 3, (a.x3 + (gl (⟨0, 0, 0, 0⟩ : Card) h i).x3) % 3⟩) := by
  obtain ⟨m, rfl⟩ : ∃ m, n = m + 5 := ⟨n - 5, by unfold BIG at hn; omega⟩
  rw [isC_iff] at hc ha
  have hin : inb (i : Int) h.length = true := inb_ok hi
  simp only [lt_eq, fx_succ, s_l2Sum_L1, hin, toNat_cast]
  generalize gl (⟨0, 0, 0, 0⟩ : Card) h i = c at hc ⊢
  simp [V4.get, V4.set, show inb 0 4 = true from rfl, show inb 1 4 = true from rfl, show inb 2 4 = true from rfl, show inb 3 4 = true from rfl, show w64 1 = 1 from by decide, show w64 (1 + 1) = 2 from by decide, show w64 (2 + 1) = 3 from by decide, show w64 (3 + 1) = 4 from by decide]
  rw [w64_id (x := a.x0 + c.x0) (by omega), w64_id (x := a.x1 + c.x1) (by omega), w64_id (x := a.x2 + c.x2) (by omega), w64_id (x := a.x3 + c.x3) (by omega), w64_id (x := (i : Int) + 1) (by omega), Int.tmod_eq_emod_of_nonneg (by omega), Int.tmod_eq_emod_of_nonneg (by omega), Int.tmod_eq_emod_of_nonneg (by omega), Int.tmod_eq_emod_of_nonneg (by omega)]
theorem s_l2Sum_eq {n : Nat} (hn : BIG ≤ n) {h : List Card} (hc : AllC h) (hl : h.length ≤ 1000) : s_l2Sum n h = some (sumC h) := by
  unfold s_l2Sum
  rw [lt_eq]
  have := fx_cnt (B := s_l2Sum_L2 n) h.length (fun i => (h, (i : Int), (⟨0, 0, 0, 0⟩ : Card), sumC (h.take i))) (fun _ => True) (fun _ => some (sumC h)) (fun self i hi _ ih => by
    simp only [s_l2Sum_L2]
    by_cases h1 : i < h.length
    · have g : gl (⟨0, 0, 0, 0⟩ : Card) h i = h[i] := gl_eq h1
      rw [br_pos (decide_eq_true (show (i : Int) < (h.length : Int) by omega)), s_sum_step hn self _ _ h1 (by omega) (gl_C hc h1) (sumC_isC _), ← ih h1 trivial, List.take_succ_eq_append_getElem h1, sumC_snoc, g]
      rfl
    · have : i = h.length := by omega
      subst this
      rw [br_neg (decide_eq_false (by omega)), List.take_length]) n 0 (Nat.zero_le _) trivial (big_gt hn (by omega))
  exact this
end Go.Pl
namespace Go.Pl
open Go Go.Tv Go.RowKit
end Go.Pl

/- Plain laws: LS. -/
import Derived.Test.YtbkbkaonjhlplaaLL4L
set_option linter.unusedVariables false
set_option linter.unusedSimpArgs false
namespace Go.Pl
open Go Go.Tv Go.RowKit
set_option linter.unusedVariables false

/-! moves of a deal -/
def layD (p : List Card) (d : Deal) (k : Int) : Deal := (d.1, (if 81 < d.2.1 + k then 81 else d.2.1 + k), d.2.2 ++ sub p d.2.1.toNat (if 81 < d.2.1 + k then 81 else d.2.1 + k).toNat)
theorem s_l2Own_le {n : Nat} {h : List Card} (hl : h.length ≤ 1048576) : s_l2Own n h = some h := s_l2Own_eq hl
theorem sub_len {α : Type} (l : List α) (a b : Nat) : (sub l a b).length ≤ b - a := by unfold sub; rw [List.length_take]; omega
theorem s_l4Lay_eq {n : Nat} {p : List Card} {d : Deal} (hp : s_l4Pile n d.1 = some p) (h81 : p.length = 81) (hl : 0 ≤ d.2.1 ∧ d.2.1 ≤ 81) (hlen : d.2.2.length ≤ 81) {k : Int} (hk : 0 ≤ k ∧ k ≤ 81) :
    s_l4Lay n d k = some (layD p d k) := by
  unfold s_l4Lay layD
  rw [hp, ob_some, lt_eq, w64_id (by omega)]
  unfold s_l1Least
  rw [br_some, ob_some, s_l2Own_eq (by omega), ob_some]
  have e : (if decide ((81 : Int) < d.2.1 + k) = true then (81 : Int) else d.2.1 + k) = if 81 < d.2.1 + k then 81 else d.2.1 + k := by by_cases h : (81 : Int) < d.2.1 + k <;> simp [h]
  rw [e]
  generalize hr : (if 81 < d.2.1 + k then (81 : Int) else d.2.1 + k) = r
  have hr2 : d.2.1 ≤ r ∧ r ≤ 81 := by split at hr <;> omega
  have e2 : d.2.1.toNat + (w64 (r - d.2.1)).toNat = r.toNat := by rw [w64_id (by omega)]; omega
  rw [e2, ckb_pos (slb_ok (by omega) (by omega) (by omega))]
  have := sub_len p d.2.1.toNat r.toNat
  rw [ckb_pos (apok_ok (by omega) (by omega))]
theorem grow_eq (n : Nat) {k : Nat} (h : k ≤ 100000) : slices_Grow_SA4_A4_ n (k : Int) = some [] := by
  unfold slices_Grow_SA4_A4_
  simp only [lt_eq]
  rw [show decide ((k : Int) < 0) = false from decide_eq_false (by omega), br_false, show w64 (0 - 0) = 0 by decide, Int.sub_zero, w64_id (by omega)]
  by_cases h : (0 : Int) < (k : Int)
  · rw [decide_eq_true h, br_true, toNat_cast, List.length_replicate]
    have : cand (nneg (k : Int)) (apok 32 k) = true := by
      rw [apok_ok (by omega) (by omega)]
      unfold nneg
      rw [decide_eq_true (by omega)]; rfl
    rw [ckb_pos this, ckb_pos (slb_ok (by omega) (by omega) (by omega))]
    unfold sub; simp
  · rw [decide_eq_false h, br_false]
theorem concat2_step (n : Nat) (go : (List (List Card)) × Int × (List (List Card)) × Int × Int → Option (List Card)) (ls : List (List Card)) {k t : Nat} (hk : k < ls.length) (hl : ls.length ≤ 100) (ht : t + ls[k].length ≤ 100000) :
    slices_Concat_SA4_A4__L2 n go (ls, (t : Int), ls, (ls.length : Int), (k : Int)) = go (ls, ((t + ls[k].length : Nat) : Int), ls, (ls.length : Int), ((k + 1 : Nat) : Int)) := by
  unfold slices_Concat_SA4_A4__L2
  simp only [lt_eq]
  rw [show decide ((k : Int) < (ls.length : Int)) = true from decide_eq_true (by omega), br_true, ckb_pos (inb_ok hk), toNat_cast, gl_eq hk, w64_id (x := (t : Int) + (ls[k].length : Int)) (by omega), show decide ((t : Int) + (ls[k].length : Int) < 0) = false from decide_eq_false (by omega), br_false, w64_succ (by omega)]
  rfl
theorem concat2_end (n : Nat) (go : (List (List Card)) × Int × (List (List Card)) × Int × Int → Option (List Card)) (ls : List (List Card)) {t : Nat} (ht : t ≤ 100000) :
    slices_Concat_SA4_A4__L2 n go (ls, (t : Int), ls, (ls.length : Int), (ls.length : Int)) = fx (slices_Concat_SA4_A4__L1 n) n (ls, (ls.length : Int), ((0 : Nat) : Int), []) := by
  unfold slices_Concat_SA4_A4__L2
  simp only []
  rw [show decide ((ls.length : Int) < (ls.length : Int)) = false from decide_eq_false (by omega), br_false, grow_eq n ht, ob_some]
  rfl
theorem concat1_step (n : Nat) (go : (List (List Card)) × Int × Int × List Card → Option (List Card)) (ls : List (List Card)) {k : Nat} (a : List Card) (hk : k < ls.length) (hl : ls.length ≤ 100) (ht : a.length + ls[k].length ≤ 100000) :
    slices_Concat_SA4_A4__L1 n go (ls, (ls.length : Int), (k : Int), a) = go (ls, (ls.length : Int), ((k + 1 : Nat) : Int), a ++ ls[k]) := by
  unfold slices_Concat_SA4_A4__L1
  simp only [lt_eq]
  rw [show decide ((k : Int) < (ls.length : Int)) = true from decide_eq_true (by omega), br_true, ckb_pos (inb_ok hk), toNat_cast, gl_eq hk, ckb_pos (apok_ok (by omega) (by omega)), w64_succ (by omega)]
theorem concat1_end (n : Nat) (go : (List (List Card)) × Int × Int × List Card → Option (List Card)) (ls : List (List Card)) (a : List Card) :
    slices_Concat_SA4_A4__L1 n go (ls, (ls.length : Int), (ls.length : Int), a) = some a := by
  unfold slices_Concat_SA4_A4__L1
  simp only []
  rw [show decide ((ls.length : Int) < (ls.length : Int)) = false from decide_eq_false (by omega), br_false]
theorem slices_Concat2 {n : Nat} (hn : BIG ≤ n) {a b : List Card} (ha : a.length ≤ 1000) (hb : b.length ≤ 1000) : slices_Concat_SA4_A4_ n [a, b] = some (a ++ b) := by
  obtain ⟨m, rfl⟩ : ∃ m, n = m + 5 := ⟨n - 5, by unfold BIG at hn; omega⟩
  unfold slices_Concat_SA4_A4_
  have e1 := concat2_step (m + 5) (fx (slices_Concat_SA4_A4__L2 (m + 5)) (m + 4)) [a, b] (k := 0) (t := 0) (by show 0 < 2; omega) (by show 2 ≤ 100; omega) (by show 0 + a.length ≤ 100000; omega)
  have e2 := concat2_step (m + 5) (fx (slices_Concat_SA4_A4__L2 (m + 5)) (m + 3)) [a, b] (k := 1) (t := 0 + a.length) (by show 1 < 2; omega) (by show 2 ≤ 100; omega) (by show 0 + a.length + b.length ≤ 100000; omega)
  have e3 := concat2_end (m + 5) (fx (slices_Concat_SA4_A4__L2 (m + 5)) (m + 2)) [a, b] (t := 0 + a.length + b.length) (by omega)
  have e4 := concat1_step (m + 5) (fx (slices_Concat_SA4_A4__L1 (m + 5)) (m + 4)) [a, b] (k := 0) [] (by show 0 < 2; omega) (by show 2 ≤ 100; omega) (by show 0 + a.length ≤ 100000; omega)
  have e5 := concat1_step (m + 5) (fx (slices_Concat_SA4_A4__L1 (m + 5)) (m + 3)) [a, b] (k := 1) ([] ++ a) (by show 1 < 2; omega) (by show 2 ≤ 100; omega) (by show ([] ++ a).length + b.length ≤ 100000; rw [List.nil_append]; omega)
  have e6 := concat1_end (m + 5) (fx (slices_Concat_SA4_A4__L1 (m + 5)) (m + 2)) [a, b] ([] ++ a ++ b)
  refine Eq.trans (fx_succ _ _ _) (Eq.trans e1 (Eq.trans (fx_succ _ _ _) (Eq.trans e2 (Eq.trans (fx_succ _ _ _) (Eq.trans e3 ?_)))))
  refine Eq.trans (fx_succ _ _ _) (Eq.trans e4 (Eq.trans (fx_succ _ _ _) (Eq.trans e5 (Eq.trans (fx_succ _ _ _) e6))))
theorem i_lay_eq {n : Nat} (hn : BIG ≤ n) {p : List Card} {d : Deal} (hp : i_pile n d.1 = some p) (h81 : p.length = 81) (hl : 0 ≤ d.2.1 ∧ d.2.1 ≤ 81) (hlen : d.2.2.length ≤ 81) {k : Int} (hk : 0 ≤ k ∧ k ≤ 81) :
    _impl_Deal__lay n d k = some (layD p d k) := by
  unfold _impl_Deal__lay layD
  rw [hp]
  simp only [lt_eq, ob_some]
  rw [w64_id (x := 81 - d.2.1) (by omega)]
  have e : d.2.1 + mnI k (81 - d.2.1) = if 81 < d.2.1 + k then 81 else d.2.1 + k := by unfold mnI; split <;> split <;> omega
  rw [e]
  generalize hr : (if 81 < d.2.1 + k then (81 : Int) else d.2.1 + k) = r
  have hr2 : d.2.1 ≤ r ∧ r ≤ 81 := by split at hr <;> omega
  have e2 : d.2.1.toNat + (w64 (r - d.2.1)).toNat = r.toNat := by rw [w64_id (by omega)]; omega
  rw [w64_id (x := r) (by omega), e2, ckb_pos (slb_ok (by omega) (by omega) (by omega))]
  have := sub_len p d.2.1.toNat r.toNat
  rw [slices_Concat2 hn (by omega) (by omega), ob_some]
theorem sub_take {α : Type} (l : List α) {a b : Nat} (h : a ≤ b) : l.take a ++ sub l a b = l.take b := by
  unfold sub
  rw [← List.drop_take]
  have : l.take a = (l.take b).take a := by rw [List.take_take, Nat.min_eq_left h]
  rw [this, List.take_append_drop]
end Go.Pl

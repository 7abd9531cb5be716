/- Plain laws: LCut. -/
import Derived.Test.YtifcbamdncpahaaDoorLLNum
import Derived.Test.YtifcbamdncpahaaDoorPL
set_option linter.unusedVariables false
set_option linter.unusedSimpArgs false
namespace Go.Pl
open Go Go.Tv Go.RowKit
def bef (c : UInt8) : List UInt8 → List UInt8
  | [] => []
  | b :: l => if b = c then [] else b :: bef c l
def aft (c : UInt8) : List UInt8 → List UInt8
  | [] => []
  | b :: l => if b = c then l else aft c l
theorem bef_app {c : UInt8} : ∀ {p : List UInt8} (q : List UInt8), c ∉ p → bef c (p ++ q) = p ++ bef c q
  | [], q, _ => rfl
  | b :: p, q, h => by
    simp only [List.mem_cons, not_or] at h
    rw [List.cons_append, bef, if_neg (fun e => h.1 e.symm), bef_app q h.2]; rfl
theorem aft_app {c : UInt8} : ∀ {p : List UInt8} (q : List UInt8), c ∉ p → aft c (p ++ q) = aft c q
  | [], q, _ => rfl
  | b :: p, q, h => by
    simp only [List.mem_cons, not_or] at h
    rw [List.cons_append, aft, if_neg (fun e => h.1 e.symm), aft_app q h.2]
@[simp] theorem bef_self {c : UInt8} (q : List UInt8) : bef c (c :: q) = [] := by simp [bef]
@[simp] theorem aft_self {c : UInt8} (q : List UInt8) : aft c (c :: q) = q := by simp [aft]
theorem bef_no {c : UInt8} {l : List UInt8} (h : c ∉ l) : bef c l = l := by
  have := bef_app [] h
  simpa [bef] using this
theorem aft_no {c : UInt8} {l : List UInt8} (h : c ∉ l) : aft c l = [] := by
  have := aft_app [] h
  simpa [aft] using this
theorem cut_eq {c : UInt8} : ∀ {l : List UInt8}, c ∈ l → l = bef c l ++ c :: aft c l
  | [], h => by cases h
  | b :: l, h => by
    unfold bef aft
    by_cases hb : b = c
    · rw [if_pos hb, if_pos hb, hb]; rfl
    · rw [if_neg hb, if_neg hb]
      have : c ∈ l := by
        rcases List.mem_cons.1 h with h | h
        · exact absurd h.symm hb
        · exact h
      rw [List.cons_append, ← cut_eq this]
theorem bef_len (c : UInt8) : ∀ (l : List UInt8), (bef c l).length ≤ l.length
  | [] => Nat.le_refl _
  | b :: l => by
    unfold bef
    split
    · simp
    · simpa using bef_len c l
theorem indexByte_eq {c : UInt8} : ∀ (l : List UInt8), Lib.indexByte l c = if c ∈ l then ((bef c l).length : Int) else -1
  | [] => by simp [Lib.indexByte]
  | b :: l => by
    unfold Lib.indexByte bef
    by_cases hb : b = c
    · subst hb; simp
    · have e1 : (b == c) = false := by simpa using hb
      rw [e1]
      simp only [Bool.false_eq_true, if_false, if_neg hb]
      rw [indexByte_eq l]
      by_cases hc : c ∈ l
      · have e2 : (((bef c l).length : Int) == -1) = false := beq_eq_false_iff_ne.2 (by omega)
        have hc2 : c ∈ b :: l := List.mem_cons_of_mem _ hc
        rw [if_pos hc, e2, if_pos hc2]
        simp only [Bool.false_eq_true, if_false, List.length_cons]
        omega
      · have hc2 : ¬ (c ∈ b :: l) := by simp only [List.mem_cons, not_or]; exact ⟨fun e => hb e.symm, hc⟩
        rw [if_neg hc, if_neg hc2]
        rfl
theorem index_at {n : Nat} (s : ByteArray) (c : UInt8) : internal_stringslite_Index_s n s (one c) = some (if c ∈ bl s then ((bef c (bl s)).length : Int) else -1) := by
  unfold internal_stringslite_Index_s
  have e1 : decide (((one c).size : Int) = 0) = false := rfl
  have e2 : decide (((one c).size : Int) = 1) = true := rfl
  have e3 : inb 0 (one c).size = true := rfl
  have e4 : sb (one c) 0 = (c.toNat : Int) := rfl
  have e5 : ((c.toNat : Int).toNat).toUInt8 = c := by simp
  have e6 : ∀ m, internal_stringslite_IndexByte m s (sb (one c) 0) = some (Lib.indexByte (bl s) c) := fun m => by
    unfold internal_stringslite_IndexByte x_IndexByteString
    rw [e4, e5]; rfl
  rw [← indexByte_eq]
  by_cases hs : one c = s
  · have : Lib.indexByte (bl s) c = 0 := by
      rw [← hs]
      show Lib.indexByte [c] c = 0
      unfold Lib.indexByte
      simp
    simp [e1, eqd, hs, br_self, this]
  · have : eqd (one c) s = false := by simp [eqd, hs]
    simp only [e1, br_false, this, ob_some, e2, br_true, e3, ckb_true, e6]
theorem ssub_bef {s : ByteArray} {c : UInt8} (h : c ∈ bl s) : ssub s 0 (bef c (bl s)).length = mk (bef c (bl s)) := by
  refine bl_inj ?_
  rw [bl_ssub, bl_mk, List.drop_zero, Nat.sub_zero]
  have e := cut_eq h
  generalize bef c (bl s) = x at *
  rw [e]
  exact List.take_left' rfl
theorem ssub_aft {s : ByteArray} {c : UInt8} (h : c ∈ bl s) : ssub s ((bef c (bl s)).length + 1) s.size = mk (aft c (bl s)) := by
  refine bl_inj ?_
  rw [bl_ssub, bl_mk]
  have e := cut_eq h
  have hl : (bl s).length = (bef c (bl s)).length + 1 + (aft c (bl s)).length := by
    conv => lhs; rw [e]
    simp only [List.length_append, List.length_cons]; omega
  have e2 : (bl s).drop ((bef c (bl s)).length + 1) = aft c (bl s) := by
    generalize bef c (bl s) = x at *
    generalize aft c (bl s) = y at *
    rw [e, show x ++ c :: y = (x ++ [c]) ++ y by simp]
    exact List.drop_left' (by simp)
  rw [e2, ← bl_len, hl]
  exact List.take_of_length_le (by omega)
theorem Cut_eq {n : Nat} {s : ByteArray} (hs : s.size ≤ 9223372036854775806) (c : UInt8) : strings_Cut n s (one c) = some (mk (bef c (bl s)), mk (aft c (bl s)), decide (c ∈ bl s)) := by
  unfold strings_Cut internal_stringslite_Cut
  rw [index_at, ob_some]
  by_cases h : c ∈ bl s
  · rw [if_pos h, decide_eq_true (by omega : (0 : Int) ≤ ((bef c (bl s)).length : Int)), br_true]
    have e := cut_eq h
    have hl : (bl s).length = (bef c (bl s)).length + 1 + (aft c (bl s)).length := by
      conv => lhs; rw [e]
      simp only [List.length_append, List.length_cons]; omega
    rw [bl_len] at hl
    have e1 : ((one c).size : Int) = 1 := rfl
    have e2 : w64 (((bef c (bl s)).length : Int) + 1) = (((bef c (bl s)).length + 1 : Nat) : Int) := w64_succ (by omega)
    rw [ckb_pos (slb_ok (by omega) (by omega) (by omega)), e1, e2, lt_eq, ckb_pos (slb_ok (by omega) (by omega) (by omega)), ob_some, toNat_cast, toNat_cast, ssub_bef h, ssub_aft h, decide_eq_true h]
  · rw [if_neg h, decide_eq_false (by omega), br_false, ob_some, bef_no h, aft_no h, mk_bl, decide_eq_false h]
    rfl
end Go.Pl

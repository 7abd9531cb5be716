/- Plain laws: LCut. -/
import Derived.Test.YtkhfihbaopbblaaDoorLLNum
import Derived.Test.YtkhfihbaopbblaaDoorPL
set_option linter.unusedVariables false
set_option linter.unusedSimpArgs false
namespace Go.Pl
open Go Go.Tv Go.RowKit
def bef (c : UInt8) : List UInt8 → List UInt8
  | [] => []
  | b :: l => if b = c then [] else b :: bef c l
def aft (c : UInt8) : List UInt8 → List UInt8
  | [] => []
  | b :: l => if b = c then l else aft c l
theorem bef_app {c : UInt8} : ∀ {p : List UInt8} (q : List UInt8), c ∉ p → bef c (p ++ q) = p ++ bef c q
  | [], q, _ => rfl
  | b :: p, q, h => by
    simp only [List.mem_cons, not_or] at h
    rw [List.cons_append, bef, if_neg (fun e => h.1 e.symm), bef_app q h.2]; rfl
theorem aft_app {c : UInt8} : ∀ {p : List UInt8} (q : List UInt8), c ∉ p → aft c (p ++ q) = aft c q
  | [], q, _ => rfl
  | b :: p, q, h => by
    simp only [List.mem_cons, not_or] at h
    rw [List.cons_append, aft, if_neg (fun e => h.1 e.symm), aft_app q h.2]
@[simp] theorem bef_self {c : UInt8} (q : List UInt8) : bef c (c :: q) = [] := by simp [bef]
@[simp] theorem aft_self {c : UInt8} (q : List UInt8) : aft c (c :: q) = q := by simp [aft]
theorem bef_no {c : UInt8} {l : List UInt8} (h : c ∉ l) : bef c l = l := by
  have := bef_app [] h
  simpa [bef] using this
theorem aft_no {c : UInt8} {l : List UInt8} (h : c ∉ l) : aft c l = [] := by
  have := aft_app [] h
  simpa [aft] using this
theorem cut_eq {c : UInt8} : ∀ {l : List UInt8}, c ∈ l → l = bef c l ++ c :: aft c l
  | [], h => by cases h
  | b :: l, h => by
    unfold bef aft
    by_cases hb : b = c
    · rw [if_pos hb, if_pos hb, hb]; rfl
    · rw [if_neg hb, if_neg hb]
      have : c ∈ l := by
        rcases List.mem_cons.1 h with h | h
        · exact absurd h.symm hb
        · exact h
      rw [List.cons_append, ← cut_eq this]
theorem bef_len (c : UInt8) : ∀ (l : List UInt8), (bef c l).length ≤ l.length
  | [] => Nat.le_refl _
  | b :: l => by
    unfold bef
    split
    · simp
    · simpa using bef_len c l
theorem aft_len (c : UInt8) : ∀ (l : List UInt8), (aft c l).length ≤ l.length
  | [] => Nat.le_refl _
  | b :: l => by
    unfold aft
    split
    · simp
    · exact Nat.le_trans (aft_len c l) (by simp)
theorem indexByte_eq {c : UInt8} : ∀ (l : List UInt8), Lib.indexByte l c = if c ∈ l then ((bef c l).length : Int) else -1
  | [] => by simp [Lib.indexByte]
  | b :: l => by
    unfold Lib.indexByte bef
    by_cases hb : b = c
    · subst hb; simp
    · have e1 : (b == c) = false := by simpa using hb
      rw [e1]
      simp only [Bool.false_eq_true, if_false, if_neg hb]
      rw [indexByte_eq l]
      by_cases hc : c ∈ l
      · have e2 : (((bef c l).length : Int) == -1) = false := beq_eq_false_iff_ne.2 (by omega)
        have hc2 : c ∈ b :: l := List.mem_cons_of_mem _ hc
        rw [if_pos hc, e2, if_pos hc2]
        simp only [Bool.false_eq_true, if_false, List.length_cons]
        omega
      · have hc2 : ¬ (c ∈ b :: l) := by simp only [List.mem_cons, not_or]; exact ⟨fun e => hb e.symm, hc⟩
        rw [if_neg hc, if_neg hc2]
        rfl
theorem index_at {n : Nat} (s : ByteArray) (c : UInt8) : internal_stringslite_Index_s n s (one c) = some (if c ∈ bl s then ((bef c (bl s)).length : Int) else -1) := by
  unfold internal_stringslite_Index_s
  have e1 : decide (((one c).size : Int) = 0) = false := rfl
  have e2 : decide (((one c).size : Int) = 1) = true := rfl
  have e3 : inb 0 (one c).size = true := rfl
  have e4 : sb (one c) 0 = (c.toNat : Int) := rfl
  have e5 : ((c.toNat : Int).toNat).toUInt8 = c := by simp
  have e6 : ∀ m, internal_stringslite_IndexByte m s (sb (one c) 0) = some (Lib.indexByte (bl s) c) := fun m => by
    unfold internal_stringslite_IndexByte x_IndexByteString
    rw [e4, e5]; rfl
  rw [← indexByte_eq]
  by_cases hs : one c = s
  · have : Lib.indexByte (bl s) c = 0 := by
      rw [← hs]
      show Lib.indexByte [c] c = 0
      unfold Lib.indexByte
      simp
    simp [e1, eqd, hs, br_self, this]
  · have : eqd (one c) s = false := by simp [eqd, hs]
    simp only [e1, br_false, this, ob_some, e2, br_true, e3, ckb_true, e6]
theorem ssub_bef {s : ByteArray} {c : UInt8} (h : c ∈ bl s) : ssub s 0 (bef c (bl s)).length = mk (bef c (bl s)) := by
  refine bl_inj ?_
  rw [bl_ssub, bl_mk, List.drop_zero, Nat.sub_zero]
  have e := cut_eq h
  generalize bef c (bl s) = x at *
  rw [e]
  exact List.take_left' rfl
theorem ssub_aft {s : ByteArray} {c : UInt8} (h : c ∈ bl s) : ssub s ((bef c (bl s)).length + 1) s.size = mk (aft c (bl s)) := by
  refine bl_inj ?_
  rw [bl_ssub, bl_mk]
  have e := cut_eq h
  have hl : (bl s).length = (bef c (bl s)).length + 1 + (aft c (bl s)).length := by
    conv => lhs; rw [e]
    simp only [List.length_append, List.length_cons]; omega
  have e2 : (bl s).drop ((bef c (bl s)).length + 1) = aft c (bl s) := by
    generalize bef c (bl s) = x at *
    generalize aft c (bl s) = y at *
    rw [e, show x ++ c :: y = (x ++ [c]) ++ y by simp]
    exact List.drop_left' (by simp)
  rw [e2, ← bl_len, hl]
  exact List.take_of_length_le (by omega)
theorem Cut_eq {n : Nat} {s : ByteArray} (hs : s.size ≤ 9223372036854775806) (c : UInt8) : strings_Cut n s (one c) = some (mk (bef c (bl s)), mk (aft c (bl s)), decide (c ∈ bl s)) := by
  unfold strings_Cut internal_stringslite_Cut
  rw [index_at, ob_some]
  by_cases h : c ∈ bl s
  · rw [if_pos h, decide_eq_true (by omega : (0 : Int) ≤ ((bef c (bl s)).length : Int)), br_true]
    have e := cut_eq h
    have hl : (bl s).length = (bef c (bl s)).length + 1 + (aft c (bl s)).length := by
      conv => lhs; rw [e]
      simp only [List.length_append, List.length_cons]; omega
    rw [bl_len] at hl
    have e1 : ((one c).size : Int) = 1 := rfl
    have e2 : w64 (((bef c (bl s)).length : Int) + 1) = (((bef c (bl s)).length + 1 : Nat) : Int) := w64_succ (by omega)
    rw [ckb_pos (slb_ok (by omega) (by omega) (by omega)), e1, e2, lt_eq, ckb_pos (slb_ok (by omega) (by omega) (by omega)), ob_some, toNat_cast, toNat_cast, ssub_bef h, ssub_aft h, decide_eq_true h]
  · rw [if_neg h, decide_eq_false (by omega), br_false, ob_some, bef_no h, aft_no h, mk_bl, decide_eq_false h]
    rfl
def splitL (c : UInt8) : List UInt8 → List (List UInt8)
  | [] => [[]]
  | b :: l => if b = c then [] :: splitL c l else match splitL c l with
    | h :: t => (b :: h) :: t
    | [] => [[b]]
theorem splitL_cons (c : UInt8) : ∀ (l : List UInt8), ∃ t, splitL c l = bef c l :: t ∧ (t = [] ↔ c ∉ l)
  | [] => ⟨[], rfl, by simp⟩
  | b :: l => by
    unfold splitL bef
    by_cases hb : b = c
    · rw [if_pos hb, if_pos hb]
      obtain ⟨t, h1, _⟩ := splitL_cons c l
      exact ⟨_, rfl, by rw [h1]; simp [hb]⟩
    · rw [if_neg hb, if_neg hb]
      obtain ⟨t, h1, h2⟩ := splitL_cons c l
      rw [h1]
      exact ⟨t, rfl, by rw [h2]; simp only [List.mem_cons, not_or]; exact ⟨fun h => ⟨fun e => hb e.symm, h⟩, fun h => h.2⟩⟩
theorem splitL_pre {c : UInt8} : ∀ {p : List UInt8} (q : List UInt8), c ∉ p → splitL c (p ++ c :: q) = p :: splitL c q
  | [], q, _ => by simp [splitL]
  | b :: p, q, h => by
    simp only [List.mem_cons, not_or] at h
    rw [List.cons_append, splitL, if_neg (fun e => h.1 e.symm), splitL_pre q h.2]
theorem splitL_no {c : UInt8} {p : List UInt8} (h : c ∉ p) : splitL c p = [p] := by
  obtain ⟨t, h1, h2⟩ := splitL_cons c p
  rw [h1, h2.2 h, bef_no h]
theorem take_drop_snoc {l : List UInt8} {i k : Nat} (hi : i ≤ k) (hk : k < l.length) : (l.drop i).take (k + 1 - i) = (l.drop i).take (k - i) ++ [l[k]] := by
  rw [show k + 1 - i = (k - i) + 1 by omega, List.take_add_one, List.getElem?_drop, show i + (k - i) = k by omega, List.getElem?_eq_getElem hk]; rfl
theorem split_R {n : Nat} {s : ByteArray} (hs : s.size ≤ 1000000) {c : UInt8} : ∀ (m k i : Nat) (out : List ByteArray) (fu : Nat), (bl s).length = k + m → i ≤ k → c ∉ ((bl s).drop i).take (k - i) → out.length ≤ k → m < fu →
    fx (s_l1Split_L1 n) fu (s, (c.toNat : Int), (i : Int), (k : Int), out) = some (out ++ (splitL c ((bl s).drop i)).map mk) := by
  have hlb := bl_len s
  intro m
  induction m with
  | zero =>
    intro k i out fu hl hi hc ho hf
    obtain ⟨fu, rfl⟩ : ∃ j, fu = j + 1 := ⟨fu - 1, by omega⟩
    rw [fx_succ]
    generalize fx (s_l1Split_L1 n) fu = g
    unfold s_l1Split_L1
    dsimp only
    rw [decide_eq_false (by omega), br_false, ckb_pos (slb_ok (by omega) (by omega) (by omega)), ckb_pos (apok_ok (by omega) (by omega)), toNat_cast]
    rw [List.take_of_length_le (by rw [List.length_drop]; omega)] at hc
    rw [splitL_no hc]
    refine congrArg some (congrArg (out ++ ·) (congrArg (fun x => [x]) (bl_inj ?_)))
    rw [bl_ssub, bl_mk]
    exact List.take_of_length_le (by rw [List.length_drop]; omega)
  | succ m ih =>
    intro k i out fu hl hi hc ho hf
    obtain ⟨fu, rfl⟩ : ∃ j, fu = j + 1 := ⟨fu - 1, by omega⟩
    have hk : k < (bl s).length := by omega
    rw [fx_succ]
    have H := fun i out h1 h2 h3 => ih (k + 1) i out fu (by omega) h1 h2 h3 (by omega)
    generalize fx (s_l1Split_L1 n) fu = g at H
    unfold s_l1Split_L1
    dsimp only
    have e1 := w64_succ (k := k) (by omega)
    rw [decide_eq_true (by omega : (k : Int) < (s.size : Int)), br_true, ckb_pos (inb_ok (by omega)), toNat_cast, toNat_cast, sb_eq hk]
    simp only [lt_eq, e1]
    by_cases hb : (bl s)[k] = c
    · rw [decide_eq_true (by rw [hb]), br_true, ckb_pos (slb_ok (by omega) (by omega) (by omega)), ckb_pos (apok_ok (by omega) (by omega)),
        H (k + 1) _ (Nat.le_refl _) (by simp) (by rw [List.length_append, List.length_singleton]; omega)]
      have hsp : (bl s).drop i = ((bl s).drop i).take (k - i) ++ c :: (bl s).drop (k + 1) := by
        conv => lhs; rw [← List.take_append_drop (k - i) ((bl s).drop i)]
        rw [List.drop_drop, show i + (k - i) = k by omega, List.drop_eq_getElem_cons hk, hb]
      have e2 : splitL c ((bl s).drop i) = ((bl s).drop i).take (k - i) :: splitL c ((bl s).drop (k + 1)) := by
        conv => lhs; rw [hsp]
        exact splitL_pre _ hc
      rw [e2, List.map_cons, List.append_assoc]
      refine congrArg some (congrArg (out ++ ·) ?_)
      rw [List.singleton_append]
      congr 1
      exact bl_inj (by rw [bl_ssub, bl_mk])
    · have hne : ¬ (((bl s)[k].toNat : Int) = (c.toNat : Int)) := fun e => hb (UInt8.toNat_inj.1 (by omega))
      rw [decide_eq_false hne, br_false, H i out (by omega) (by
        rw [take_drop_snoc hi hk, List.mem_append, List.mem_singleton, not_or]
        exact ⟨hc, fun e => hb e.symm⟩) (by omega)]
theorem s_l1Split_eq {n : Nat} (hn : BIG ≤ n) {s : ByteArray} (hs : s.size ≤ 1000000) (c : UInt8) : s_l1Split n s (c.toNat : Int) = some ((splitL c (bl s)).map mk) := by
  unfold s_l1Split
  have := split_R (n := n) hs (c := c) (bl s).length 0 0 [] n (by omega) (Nat.le_refl _) (by simp) (by simp) (big_gt hn (by rw [bl_len]; omega))
  simpa using this
end Go.Pl

/- Plain laws: R25. -/
import Derived.Test.YtkhfihbaopbblaaDoorLR21
set_option linter.unusedVariables false
set_option linter.unusedSimpArgs false
namespace Go.Pl
open Go Go.Tv Go.RowKit
theorem bl_strOf (xs : List Int) : bl (strOfNums xs) = xs.map fun n => UInt8.ofNat n.toNat := rfl
theorem sbytes_eq (s : ByteArray) : sbytes s = (bl s).map fun b => (b.toNat : Int) := rfl
theorem strOf_app (a b : List Int) : strOfNums (a ++ b) = strOfNums a ++ strOfNums b := bl_inj (by rw [bl_app, bl_strOf, bl_strOf, bl_strOf, List.map_append])
theorem strOf_sbytes (s : ByteArray) : strOfNums (sbytes s) = s := bl_inj (by
  rw [bl_strOf, sbytes_eq, List.map_map]
  conv => rhs; rw [← List.map_id (bl s)]
  refine List.map_congr_left fun b _ => ?_
  simp)
theorem sbytes_app (a b : ByteArray) : sbytes (a ++ b) = sbytes a ++ sbytes b := by rw [sbytes_eq, bl_app, List.map_append]; rfl
theorem sbytes_len (s : ByteArray) : (sbytes s).length = s.size := by rw [sbytes_eq, List.length_map, bl_len]
theorem ssub_len {s : ByteArray} {k : Nat} (h : k ≤ s.size) : (ssub s 0 k).size = k := by
  rw [← bl_len, bl_ssub, List.drop_zero, Nat.sub_zero, List.length_take, bl_len]; omega
def torn (b : List Int) (k : Nat) : List Int := b.set k (IntKind.wrap .u8 (255 - gl 0 b k))
def crash (l : Lg) (keep : Int) (t : Bool) : ByteArray × Bool :=
  if logB l = true ∧ 0 ≤ keep ∧ keep ≤ (l.2.1.size : Int) then (l.1 ++ strOfNums (if t = true ∧ 0 < keep then torn (sbytes (ssub l.2.1 0 keep.toNat)) (keep.toNat - 1) else sbytes (ssub l.2.1 0 keep.toNat)), true) else (⟨#[]⟩, false)
theorem s_CrashLog_eq {n : Nat} (hn : BIG ≤ n) {l : Lg} (hl : l.1.size + l.2.1.size ≤ 1048576) (keep : Int) (t : Bool) : s_CrashLog n l keep t = some (crash l keep t) := by
  unfold s_CrashLog crash
  rw [s_l12Valid_eq hn hl, ob_some]
  cases h : logB l with
  | false => rw [if_neg (by simp)]; rfl
  | true =>
    rw [Bool.not_true, br_false, s_l1In_eq, ob_some, ob_some]
    by_cases hk : 0 ≤ keep ∧ keep ≤ (l.2.1.size : Int)
    · obtain ⟨k, rfl⟩ : ∃ k : Nat, keep = (k : Int) := ⟨keep.toNat, by omega⟩
      have hkl : k ≤ l.2.1.size := by omega
      have hsl := ssub_len hkl
      have hbl := sbytes_len (ssub l.2.1 0 k)
      rw [decide_eq_true hk, Bool.not_true, br_false, if_pos ⟨rfl, hk⟩, ckb_pos (slb_ok (by omega) (by omega) hk.2), toNat_cast, ckb_pos (stok_ok (by omega))]
      generalize hB : sbytes (ssub l.2.1 0 k) = b at *
      have fin : ∀ x : List Int, x.length ≤ 1048576 → s_CrashLog_J1 n (l, x) = some (l.1 ++ strOfNums x, true) := fun x hx => by
        unfold s_CrashLog_J1
        dsimp only
        rw [lt_eq, ckb_pos (stok_ok (by rw [strOfNums_size]; omega)), lt_eq]
      by_cases ht : t = true ∧ (0 : Int) < (k : Int)
      · obtain ⟨rfl, h0⟩ := ht
        have e1 : w64 ((k : Int) - 1) = ((k - 1 : Nat) : Int) := by rw [w64_id (by omega)]; omega
        rw [br_true, decide_eq_true h0, ob_some, br_true, e1, lt_eq, lt_eq, ckb_pos (inb_ok (by omega)), lt_eq, ckb_pos (inb_ok (by omega)), lt_eq, toNat_cast, if_pos ⟨rfl, h0⟩, fin _ (by rw [List.length_set]; omega)]; rfl
      · rw [if_neg ht]
        have hx : (br t (some (decide ((0 : Int) < (k : Int)))) (some false)) = some false := by
          cases t with
          | false => rfl
          | true => rw [br_true, decide_eq_false (fun h => ht ⟨rfl, h⟩)]
        rw [hx, ob_some, br_false, fin _ (by omega)]
    · rw [decide_eq_false hk, Bool.not_false, br_true, if_neg (fun h => hk h.2)]
theorem i_CrashLog_eq {n : Nat} (hn : BIG ≤ n) {l : Lg} (hl : l.1.size + l.2.1.size ≤ 1048576) (keep : Int) (t : Bool) : i_CrashLog n l keep t = some (crash l keep t) := by
  unfold i_CrashLog crash
  rw [i_IsValidLog_eq hn hl, ob_some]
  cases h : logB l with
  | false => rw [if_neg (by simp)]; rfl
  | true =>
    rw [Bool.not_true, br_false, i_within_eq, ob_some, ob_some]
    by_cases hk : 0 ≤ keep ∧ keep ≤ (l.2.1.size : Int)
    · obtain ⟨k, rfl⟩ : ∃ k : Nat, keep = (k : Int) := ⟨keep.toNat, by omega⟩
      have hkl : k ≤ l.2.1.size := by omega
      have hsl := ssub_len hkl
      have hbl := sbytes_len (ssub l.2.1 0 k)
      have hal := sbytes_len l.1
      rw [decide_eq_true hk, Bool.not_true, br_false, if_pos ⟨rfl, hk⟩, ckb_pos (slb_ok (by omega) (by omega) hk.2), toNat_cast, ckb_pos (stok_ok (by omega)), lt_eq, ckb_pos (stok_ok (by rw [app_size]; omega)), sbytes_app]
      generalize hB : sbytes (ssub l.2.1 0 k) = b at *
      generalize hA : sbytes l.1 = a at *
      have hAs : strOfNums a = l.1 := by rw [← hA, strOf_sbytes]
      by_cases ht : t = true ∧ (0 : Int) < (k : Int)
      · obtain ⟨rfl, h0⟩ := ht
        have hlen : (a ++ b).length = l.1.size + k := by rw [List.length_append]; omega
        have e1 : w64 (((a ++ b).length : Int) - 1) = ((l.1.size + (k - 1) : Nat) : Int) := by rw [hlen, w64_id (by omega)]; omega
        rw [br_true, decide_eq_true h0, ob_some, br_true, e1, lt_eq, lt_eq, ckb_pos (inb_ok (by omega)), lt_eq, ckb_pos (inb_ok (by omega)), lt_eq, lt_eq, toNat_cast, if_pos ⟨rfl, h0⟩]
        have e2 : gl 0 (a ++ b) (l.1.size + (k - 1)) = gl 0 b (k - 1) := by
          rw [gl_eq (by omega), gl_eq (by omega), List.getElem_append_right (by omega)]
          congr 1; omega
        have e3 : ∀ v : Int, (a ++ b).set (l.1.size + (k - 1)) v = a ++ b.set (k - 1) v := fun v => by
          rw [List.set_append_right _ _ (by omega)]
          congr 2; omega
        rw [e2, e3, strOf_app, hAs]; rfl
      · rw [if_neg ht]
        have hx : (br t (some (decide ((0 : Int) < (k : Int)))) (some false)) = some false := by
          cases t with
          | false => rfl
          | true => rw [br_true, decide_eq_false (fun h => ht ⟨rfl, h⟩)]
        rw [hx, ob_some, br_false, lt_eq, strOf_app, hAs]
    · rw [decide_eq_false hk, Bool.not_false, br_true, if_neg (fun h => hk h.2)]
end Go.Pl

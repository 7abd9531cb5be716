/- Plain laws: R20. -/
import Derived.Test.YtmojhlpphinobaaLLX1
import Derived.KernelRfl
set_option linter.unusedVariables false
set_option linter.unusedSimpArgs false
namespace Go.Pl
open Go Go.Tv Go.RowKit

def cardN (k : Nat) : Card := ⟨((k / 27 : Nat) : Int), ((k / 9 % 3 : Nat) : Int), ((k / 3 % 3 : Nat) : Int), ((k % 3 : Nat) : Int)⟩
def cards81 : List Card := (List.range 81).map cardN
theorem mem_cards81 {c : Card} (h : isC c = true) : c ∈ cards81 := by
  rw [isC_iff] at h
  obtain ⟨c0, c1, c2, c3⟩ := c
  simp only at h
  refine List.mem_map.2 ⟨(27 * c0 + 9 * c1 + 3 * c2 + c3).toNat, by rw [List.mem_range]; omega, ?_⟩
  unfold cardN
  congr 1 <;> omega
def okB : Option Bool → Bool
  | some true => true
  | _ => false
theorem okB_eq {o : Option Bool} (h : okB o = true) : o = some true := by
  cases o with
  | none => cases h
  | some b => cases b <;> first | rfl | cases h

theorem nearest_run (m : Nat) : (cards81.all fun c => okB (v_FnExactNearestCodeword (m + 64) c)) = true := by kernel_rfl
theorem law_FnExactNearestCodeword {n : Nat} (hn : BIG ≤ n) (c : Card) (_ : (Ty.arr 4 (.int .i64)).ok c) : v_FnExactNearestCodeword n c = some true := by
  cases hc : isC c with
  | true =>
    obtain ⟨m, rfl⟩ : ∃ m, n = m + 64 := ⟨n - 64, by unfold BIG at hn; omega⟩
    exact okB_eq (List.all_eq_true.1 (nearest_run m) c (mem_cards81 hc))
  | false =>
    unfold v_FnExactNearestCodeword s_NearestCodeword i_NearestCodeword
    simp only [v_toIntA4_eq hn, ob_some, lt_eq, s_l2Card_eq hn, i_IsCard_eq hn, hc, Bool.not_false, br_true, v_eqIntA4_eq hn, decide_true, Bool.not_true, br_false, beq_self_eq_true]
end Go.Pl

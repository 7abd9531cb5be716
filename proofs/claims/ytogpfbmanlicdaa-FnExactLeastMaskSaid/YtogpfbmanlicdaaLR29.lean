/- Plain laws: R29. -/
import Derived.Test.YtogpfbmanlicdaaLLSo6
import Derived.Test.YtogpfbmanlicdaaLL11
import Derived.Test.YtogpfbmanlicdaaLLX1
set_option linter.unusedVariables false
set_option linter.unusedSimpArgs false
namespace Go.Pl
open Go Go.Tv Go.RowKit
set_option linter.unusedVariables false

def shHand (h : List Card) (m : Int) : Bool × List Card := if hand h && maskB m then (true, sortd (h.map (shadow m))) else (false, [])
theorem map_allC {h : List Card} (hh : hand h = true) (m : Int) : AllC (h.map (shadow m)) := fun c hc => by
  obtain ⟨x, hx, rfl⟩ := List.mem_map.1 hc
  exact shadow_isC (hand_all hh x hx)
theorem s_ShadowHand_eq {n : Nat} (hn : BIG ≤ n) {h : List Card} (hl : h.length ≤ 1048576) (m : Int) : s_ShadowHand n h m = some (shHand h m) := by
  unfold s_ShadowHand shHand
  rw [s_l2Hand_eq hn (by omega), s_l11Mask_eq]
  cases hh : hand h with
  | false => simp
  | true =>
    cases hm : maskB m with
    | false => simp
    | true =>
      have := hand_len hh
      simp [s_l11All_eq hn hl, s_l2Sorted_eq hn (map_allC hh m) (by simp; omega)]
theorem i_ShadowHand_eq {n : Nat} (hn : BIG ≤ n) {h : List Card} (hl : h.length ≤ 1048576) (m : Int) : i_ShadowHand n h m = some (shHand h m) := by
  unfold i_ShadowHand shHand
  rw [i_IsHand_eq hn (by omega), i_IsMask_eq]
  cases hh : hand h with
  | false => simp
  | true =>
    cases hm : maskB m with
    | false => simp
    | true =>
      have := hand_len hh
      simp [i_shadows_eq hn hl, i_sorted_eq hn (map_allC hh m) (by simp; omega)]
theorem shHand_len {h : List Card} (hl : h.length ≤ 1048576) (m : Int) : (shHand h m).2.length ≤ 1048576 := by
  unfold shHand
  split
  · rename_i hc
    rw [Bool.and_eq_true] at hc
    have := (sortd_ok (map_allC hc.1 m)).2.2.2
    simp at this ⊢; omega
  · simp

theorem law_FnExactShadowHand {n : Nat} (hn : BIG ≤ n) (h : List Card) (ok : (Ty.sl (.arr 4 (.int .i64))).ok h) (m : Int) (_ : (Ty.int .i64).ok m) : v_FnExactShadowHand n h m = some true := by
  have hl : h.length ≤ 9223372036854775807 := ok_list ok
  unfold v_FnExactShadowHand
  rw [v_szIntA4S_eq (by omega) (by omega), ob_some]
  by_cases h1 : (1048576 : Int) - (h.length : Int) < 0
  · rw [if_pos h1]; rfl
  have hl2 : h.length ≤ 1048576 := by omega
  have hl3 := shHand_len hl2 m
  have p1 : decide ((1 : Int) + 4 * (h.length : Int) < 0) = false := decide_eq_false (by omega)
  have p2 : decide ((1 : Int) + 4 * ((shHand h m).2.length : Int) < 0) = false := decide_eq_false (by omega)
  rw [if_neg h1, decide_eq_false h1, br_false]
  simp only [v_toIntA4S_eq hn (show h.length ≤ 1099511627776 by omega), ob_some, s_ShadowHand_eq hn hl2, i_ShadowHand_eq hn hl2, v_eqIntA4S_eq hn (show (shHand h m).2.length ≤ 9223372036854775807 by omega),
    v_eqIntA4S_eq hn hl, v_markIntA4S'o_eq hn (l := h) (k := 1) (by omega) (by omega), v_markIntA4S'o_eq hn (l := (shHand h m).2) (k := 1) (by omega) (by omega), v_heldIntA4S_eq hn (l := (shHand h m).2) (k := 1) (by omega) (by omega),
    p1, p2, decide_true, Bool.not_true, br_false, br_some, beq_self_eq_true, Bool.false_eq_true, if_false]
end Go.Pl

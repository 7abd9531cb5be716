/- Plain laws: R28. -/
import Derived.Test.YtmojhlpphinobaaLLX3
set_option linter.unusedVariables false
set_option linter.unusedSimpArgs false
namespace Go.Pl
open Go Go.Tv Go.RowKit
set_option linter.unusedVariables false

theorem MakeClaim_eq {n : Nat} (hn : BIG ≤ n) (g : Game) (c : Claim) (h : Len g 1048576) :
    ∃ (k : Int) (b : Bool) (q : Game), s_MakeClaim n g c = some (q.1.1, q.1.2.1, k, b, q.1.2.2, q.2.1, q.2.2) ∧ i_MakeClaim n g c = some (q.1.1, q.1.2.1, k, b, q.1.2.2, q.2.1, q.2.2) ∧ Len q 1048576 := by
  obtain ⟨h1, h2, h3⟩ := h
  obtain ⟨b, e1, e2, hb⟩ := isGame_eq hn g (by omega) (by omega) (by omega)
  unfold s_MakeClaim i_MakeClaim
  rw [e1, e2, ob_some, ob_some]
  cases b with
  | false => exact ⟨0, false, ((0, (0, [])), ([], [])), rfl, rfl, by decide, by decide, by decide⟩
  | true =>
    obtain ⟨p, hP, hG⟩ := hb rfl
    have hm := madeG_ok hP.perm (n := n) hG c
    obtain ⟨h81, _, _⟩ := pile_facts hP.perm
    refine ⟨(madeG p n g c).1, true, (madeG p n g c).2, ?_, ?_, hm.lens h81⟩
    · rw [Bool.not_true, br_false, s_l8Made_eq hn hP hG c, ob_some]; rfl
    · rw [Bool.not_true, br_false, i_own_eq h1 h2 h3, ob_some, i_make_eq hn hP hG c, ob_some]; rfl
theorem law_FnExactMakeClaim {n : Nat} (hn : BIG ≤ n) (g : Game) (ok1 : (Ty.pair (.pair (.int .i64) (.pair (.int .i64) (.sl (.arr 4 (.int .i64))))) (.pair (.sl (.int .i64)) (.sl (.int .i64)))).ok g) (c : Claim) (ok2 : (Ty.pair (.int .i64) (.arr 3 (.int .i64))).ok c) : v_FnExactMakeClaim n g c = some true := by
  have hL : Len g 9223372036854775807 := ⟨ok_list ok1.1.2.2, ok_list ok1.2.1, ok_list ok1.2.2⟩
  obtain ⟨x, e0, hx⟩ := v_szGame_ok (n := n) hL
  unfold v_FnExactMakeClaim
  rw [e0, ob_some]
  by_cases hneg : x < 0
  · rw [decide_eq_true hneg, br_true]
  · obtain ⟨hL1, _⟩ := hx hneg
    obtain ⟨k, b, q, e1, e2, hq⟩ := MakeClaim_eq hn g c hL1
    have e1' : s_MakeClaim n ((g.1.1, (g.1.2.1, g.1.2.2)), (g.2.1, g.2.2)) c = _ := e1
    have e2' : i_MakeClaim n ((g.1.1, (g.1.2.1, g.1.2.2)), (g.2.1, g.2.2)) c = _ := e2
    have q1 : v_eqGame n ((q.1.1, (q.1.2.1, q.1.2.2)), (q.2.1, q.2.2)) ((q.1.1, (q.1.2.1, q.1.2.2)), (q.2.1, q.2.2)) = some true := v_eqGame_self hn (g := q) hq
    have q2 : v_eqGame n ((g.1.1, (g.1.2.1, g.1.2.2)), (g.2.1, g.2.2)) ((g.1.1, (g.1.2.1, g.1.2.2)), (g.2.1, g.2.2)) = some true := v_eqGame_self hn (g := g) hL1
    have p1 : ∀ y : Game, Len y 1048576 → decide (total y < 0) = false := fun y hy => decide_eq_false (by unfold total; omega)
    rw [decide_eq_false hneg, br_false]
    simp only [v_toGame_eq hn hL1, v_toClaim_eq hn, ob_some, e1', e2', q1, q2, Bool.not_true, br_false, decide_true, beq_self_eq_true, v_markGame_eq hn hL1, v_markGame_eq hn hq, p1 g hL1, p1 q hq, v_heldGame_eq hn hq]
end Go.Pl

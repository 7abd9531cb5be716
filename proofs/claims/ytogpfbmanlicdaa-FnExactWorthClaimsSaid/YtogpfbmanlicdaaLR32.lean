/- Plain laws: R32. -/
import Derived.Test.YtogpfbmanlicdaaLLZ
set_option linter.unusedVariables false
set_option linter.unusedSimpArgs false
namespace Go.Pl
open Go Go.Tv Go.RowKit
set_option linter.unusedVariables false

theorem law_FnExactWorthClaims {n : Nat} (hn : BIG ≤ n) (g : Game) (ok1 : (Ty.pair (.pair (.int .i64) (.pair (.int .i64) (.sl (.arr 4 (.int .i64))))) (.pair (.sl (.int .i64)) (.sl (.int .i64)))).ok g) (l : List Claim) (ok2 : (Ty.sl (.pair (.int .i64) (.arr 3 (.int .i64)))).ok l) (k : Int) (_ : (Ty.int .i64).ok k) : v_FnExactWorthClaims n g l k = some true := by
  have hL : Len g 9223372036854775807 := ⟨ok_list ok1.1.2.2, ok_list ok1.2.1, ok_list ok1.2.2⟩
  have hl : l.length ≤ 9223372036854775807 := ok_list ok2
  obtain ⟨x, e0, hx⟩ := v_szGame_ok (n := n) hL
  unfold v_FnExactWorthClaims
  rw [e0, ob_some]
  by_cases hneg : x < 0
  · rw [decide_eq_true hneg, br_true]
  · obtain ⟨hL1, hxm⟩ := hx hneg
    rw [decide_eq_false hneg, br_false, v_szClaimS_eq hl (by omega), ob_some]
    by_cases hn2 : x - (l.length : Int) < 0
    · rw [if_pos hn2]; rfl
    · rw [if_neg hn2, decide_eq_false hn2, br_false]
      have hl1 : l.length ≤ 1048576 := by omega
      obtain ⟨r, e1, e2⟩ := WorthClaims_eq hn g l k hL1 hl1
      have e1' : s_WorthClaims n ((g.1.1, (g.1.2.1, g.1.2.2)), (g.2.1, g.2.2)) l k = _ := e1
      have e2' : i_WorthClaims n ((g.1.1, (g.1.2.1, g.1.2.2)), (g.2.1, g.2.2)) l k = _ := e2
      have q2 : v_eqGame n ((g.1.1, (g.1.2.1, g.1.2.2)), (g.2.1, g.2.2)) ((g.1.1, (g.1.2.1, g.1.2.2)), (g.2.1, g.2.2)) = some true := v_eqGame_self hn (g := g) hL1
      simp only [v_toGame_eq hn hL1, v_toClaimS_eq hn (a := l) (by omega), ob_some, e1', e2', q2, v_eqClaimS_self hn (a := l) (by omega), Bool.not_true, br_false, br_some, decide_true, beq_self_eq_true, Bool.false_eq_true, if_false]
end Go.Pl

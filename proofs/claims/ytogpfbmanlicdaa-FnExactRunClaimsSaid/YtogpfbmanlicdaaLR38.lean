/- Plain laws: R38. -/
import Derived.Test.YtogpfbmanlicdaaLLZ
set_option linter.unusedVariables false
set_option linter.unusedSimpArgs false
namespace Go.Pl
open Go Go.Tv Go.RowKit
set_option linter.unusedVariables false

theorem markClaimS_go {n : Nat} (hn : BIG ≤ n) : ∀ (m i : Nat) (l : List Claim) (k : Int), l.length = i + m → l.length ≤ 1048576 → 0 ≤ k → k + 4 * m ≤ 4611686018427387904 → ∀ j, m < j →
    ∃ l', fx (v_markClaimS'o_L2 n) j (k, (i : Int), l) = some (k + 4 * m, l')
  | 0, i, l, k, hl, _, _, _, j + 1, _ => by
    rw [fx_succ]
    unfold v_markClaimS'o_L2
    simp only []
    rw [decide_eq_false (by omega), br_false]
    exact ⟨l, by simp⟩
  | m + 1, i, l, k, hl, hl2, h0, h1, j + 1, hj => by
    have hi : i < l.length := by omega
    rw [fx_succ]
    have ih := fun l' (hl' : l'.length = l.length) => markClaimS_go hn m (i + 1) l' (k + 4) (by omega) (by omega) (by omega) (by omega) j (by omega)
    generalize hgo : fx (v_markClaimS'o_L2 n) j = go at ih ⊢
    obtain ⟨q, rfl⟩ : ∃ q, n = q + 5 := ⟨n - 5, by unfold BIG at hn; omega⟩
    unfold v_markClaimS'o_L2
    simp only [lt_eq]
    rw [decide_eq_true (show (i : Int) < (l.length : Int) by omega), br_true, ckb_pos (inb_ok hi), w64_id (x := k + 1) (by omega), toNat_cast]
    simp only [fx_succ, v_markClaimS'o_L1, lt_eq, List.length_set, inb_ok hi, ckb_true, toNat_cast]
    simp only [show (decide ((0 : Int) < 3)) = true from rfl, show inb 0 3 = true from rfl, show w64 (0 + 1) = 1 from by decide, br_true, ckb_true, List.length_set, inb_ok hi,
      show (decide ((1 : Int) < 3)) = true from rfl, show inb 1 3 = true from rfl, show w64 (1 + 1) = 2 from by decide, show (decide ((2 : Int) < 3)) = true from rfl, show inb 2 3 = true from rfl, show w64 (2 + 1) = 3 from by decide, show (decide ((3 : Int) < 3)) = false from rfl, br_false]
    rw [w64_id (x := k + 1 + 1) (by omega), w64_id (x := k + 1 + 1 + 1) (by omega), w64_id (x := k + 1 + 1 + 1 + 1) (by omega), w64_succ (by omega), show k + 1 + 1 + 1 + 1 = k + 4 by omega, show k + 4 * ((m + 1 : Nat) : Int) = k + 4 + 4 * (m : Int) by omega]
    exact ih _ (by simp only [List.length_set])
theorem markClaimS_ok {n : Nat} (hn : BIG ≤ n) {l : List Claim} {k : Int} (hl : l.length ≤ 1048576) (h0 : 0 ≤ k) (h1 : k ≤ 1000000000) : ∃ x, v_markClaimS'o n k l = some x ∧ 0 ≤ x.1 := by
  obtain ⟨l', e⟩ := markClaimS_go hn l.length 0 l k (by omega) hl h0 (by omega) n (big_gt hn (by omega))
  exact ⟨_, e, by show 0 ≤ k + 4 * (l.length : Int); omega⟩
theorem law_FnExactRunClaims {n : Nat} (hn : BIG ≤ n) (g : Game) (ok1 : (Ty.pair (.pair (.int .i64) (.pair (.int .i64) (.sl (.arr 4 (.int .i64))))) (.pair (.sl (.int .i64)) (.sl (.int .i64)))).ok g) (l : List Claim) (ok2 : (Ty.sl (.pair (.int .i64) (.arr 3 (.int .i64)))).ok l) : v_FnExactRunClaims n g l = some true := by
  have hL : Len g 9223372036854775807 := ⟨ok_list ok1.1.2.2, ok_list ok1.2.1, ok_list ok1.2.2⟩
  have hl : l.length ≤ 9223372036854775807 := ok_list ok2
  obtain ⟨x, e0, hx⟩ := v_szGame_ok (n := n) hL
  unfold v_FnExactRunClaims
  rw [e0, ob_some]
  by_cases hneg : x < 0
  · rw [decide_eq_true hneg, br_true]
  · obtain ⟨hL1, hxm⟩ := hx hneg
    rw [decide_eq_false hneg, br_false, v_szClaimS_eq hl (by omega), ob_some]
    by_cases hn2 : x - (l.length : Int) < 0
    · rw [if_pos hn2]; rfl
    · rw [if_neg hn2, decide_eq_false hn2, br_false]
      have hl1 : l.length ≤ 1048576 := by omega
      obtain ⟨r, e1, e2, hr⟩ := RunClaims_eq hn g l hL1 hl1
      have hrl := hr.len
      have e1' : s_RunClaims n ((g.1.1, (g.1.2.1, g.1.2.2)), (g.2.1, g.2.2)) l = _ := e1
      have e2' : i_RunClaims n ((g.1.1, (g.1.2.1, g.1.2.2)), (g.2.1, g.2.2)) l = _ := e2
      have q1 : v_eqGame n ((r.1, (r.2.1, r.2.2.2.2.1)), (r.2.2.2.2.2.1, r.2.2.2.2.2.2)) ((r.1, (r.2.1, r.2.2.2.2.1)), (r.2.2.2.2.2.1, r.2.2.2.2.2.2)) = some true := v_eqGame_self hn hrl
      have q2 : v_eqGame n ((g.1.1, (g.1.2.1, g.1.2.2)), (g.2.1, g.2.2)) ((g.1.1, (g.1.2.1, g.1.2.2)), (g.2.1, g.2.2)) = some true := v_eqGame_self hn (g := g) hL1
      have m1 := v_markGame_eq hn hL1
      have m2 := v_markGame_eq hn hrl
      simp only [] at m2
      have m3 := v_heldGame_eq hn hrl
      simp only [] at m3
      have hgb : 0 ≤ total g ∧ total g ≤ 1000000000 := by obtain ⟨a, b, c⟩ := hL1; unfold total; omega
      obtain ⟨z, m4, hz⟩ := markClaimS_ok hn hl1 hgb.1 hgb.2
      have p1 : decide (z.1 < 0) = false := decide_eq_false (by omega)
      have p2 : decide (total ((r.1, (r.2.1, r.2.2.2.2.1)), (r.2.2.2.2.2.1, r.2.2.2.2.2.2)) < 0) = false := decide_eq_false (by unfold total; omega)
      simp only [v_toGame_eq hn hL1, v_toClaimS_eq hn (a := l) (by omega), ob_some, e1', e2', q1, q2, v_eqClaimS_self hn (a := l) (by omega), v_eqIntA4_eq hn, m1, m2, m3, m4, p1, p2, Bool.not_true, br_false, br_some, decide_true, beq_self_eq_true, Bool.false_eq_true, if_false]
end Go.Pl

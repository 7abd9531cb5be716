/- Plain laws: LX3. -/
import Derived.Test.YtogpfbmanlicdaaLLW
set_option linter.unusedVariables false
set_option linter.unusedSimpArgs false
namespace Go.Pl
open Go Go.Tv Go.RowKit
set_option linter.unusedVariables false

/-! the laws' words on games and claims -/
def Len (g : Game) (k : Nat) : Prop := g.1.2.2.length ≤ k ∧ g.2.1.length ≤ k ∧ g.2.2.length ≤ k
theorem v_toGame_eq {n : Nat} (hn : BIG ≤ n) {g : Game} (h : Len g 1048576) : v_toGame n g = some (g.1.1, g.1.2.1, g.1.2.2, g.2.1, g.2.2) := by
  obtain ⟨h1, h2, h3⟩ := h
  unfold v_toGame v_toDeal
  rw [v_toIntA4S_eq hn (by omega), ob_some, ob_some, v_toIntS_eq hn (by omega), ob_some, v_toIntS_eq hn (by omega), ob_some]
theorem v_eqGame_self {n : Nat} (hn : BIG ≤ n) {g : Game} (h : Len g 1048576) : v_eqGame n g g = some true := by
  obtain ⟨h1, h2, h3⟩ := h
  unfold v_eqGame v_eqDeal
  rw [v_eqIntA4S_eq hn (by omega), v_eqIntS_eq hn (by omega), v_eqIntS_eq hn (by omega)]
  simp
theorem v_szGame_ok {n : Nat} {g : Game} (h : Len g 9223372036854775807) : ∃ x, v_szGame n g 1048576 = some x ∧ (¬ x < 0 → Len g 1048576 ∧ x ≤ 1048576) := by
  obtain ⟨h1, h2, h3⟩ := h
  unfold v_szGame v_szDeal
  rw [v_szIntA4S_eq h1 (by omega), ob_some]
  by_cases a : (1048576 : Int) - (g.1.2.2.length : Int) < 0
  · rw [if_pos a]; exact ⟨-1, rfl, fun h => absurd (by decide) h⟩
  · rw [if_neg a, decide_eq_false a, br_false, ob_some, decide_eq_false a, br_false, v_szIntS_eq h2 (by omega), ob_some]
    by_cases b : (1048576 : Int) - (g.1.2.2.length : Int) - (g.2.1.length : Int) < 0
    · rw [if_pos b]; exact ⟨-1, rfl, fun h => absurd (by decide) h⟩
    · rw [if_neg b, decide_eq_false b, br_false, v_szIntS_eq h3 (by omega), ob_some]
      by_cases c : (1048576 : Int) - (g.1.2.2.length : Int) - (g.2.1.length : Int) - (g.2.2.length : Int) < 0
      · rw [if_pos c]; exact ⟨-1, rfl, fun h => absurd (by decide) h⟩
      · rw [if_neg c, decide_eq_false c, br_false]
        exact ⟨_, rfl, fun _ => ⟨⟨by omega, by omega, by omega⟩, by omega⟩⟩
theorem v_toIntA3_eq {n : Nat} (hn : BIG ≤ n) (t : V3 Int) : v_toIntA3 n t = some t := by
  obtain ⟨m, rfl⟩ : ∃ m, n = m + 5 := ⟨n - 5, by unfold BIG at hn; omega⟩
  unfold v_toIntA3
  simp only [fx_succ, v_toIntA3_L1, lt_eq]
  simp [inb, V3.get, V3.set]
theorem v_toClaim_eq {n : Nat} (hn : BIG ≤ n) (c : Claim) : v_toClaim n c = some c := by
  unfold v_toClaim
  rw [lt_eq, v_toIntA3_eq hn, ob_some, lt_eq]
def total (g : Game) : Int := 1 + 4 * (g.1.2.2.length : Int) + (g.2.1.length : Int) + (g.2.2.length : Int)
def marks (g : Game) : List Card × List Int × List Int := (mark4 g.1.2.2 1, mark1 g.2.1 (1 + 4 * (g.1.2.2.length : Int)), mark1 g.2.2 (1 + 4 * (g.1.2.2.length : Int) + (g.2.1.length : Int)))
theorem v_markGame_eq {n : Nat} (hn : BIG ≤ n) {g : Game} (h : Len g 1048576) : v_markGame'ooo n g.1.1 g.1.2.1 1 g.1.2.2 g.2.1 g.2.2 = some (total g, marks g) := by
  obtain ⟨h1, h2, h3⟩ := h
  unfold total marks v_markGame'ooo v_markDeal'o
  rw [v_markIntA4S'o_eq hn (by omega) (by omega), ob_some, ob_some, v_markIntS'o_eq hn (by omega) (by omega), ob_some, v_markIntS'o_eq hn (by omega) (by omega), ob_some]
theorem v_heldGame_eq {n : Nat} (hn : BIG ≤ n) {g : Game} (h : Len g 1048576) : v_heldGame n ((g.1.1, (g.1.2.1, (marks g).1)), ((marks g).2.1, (marks g).2.2)) 1 = some (total g) := by
  obtain ⟨h1, h2, h3⟩ := h
  unfold total marks v_heldGame v_heldDeal
  simp only []
  rw [v_heldIntA4S_eq hn (by omega) (by omega), ob_some, decide_eq_false (show ¬ (1 : Int) + 4 * (g.1.2.2.length : Int) < 0 by omega), br_false, ob_some, decide_eq_false (show ¬ (1 : Int) + 4 * (g.1.2.2.length : Int) < 0 by omega), br_false,
    v_heldIntS_eq hn (by omega) (by omega), ob_some, decide_eq_false (show ¬ (1 : Int) + 4 * (g.1.2.2.length : Int) + (g.2.1.length : Int) < 0 by omega), br_false, v_heldIntS_eq hn (by omega) (by omega), ob_some,
    decide_eq_false (show ¬ (1 : Int) + 4 * (g.1.2.2.length : Int) + (g.2.1.length : Int) + (g.2.2.length : Int) < 0 by omega), br_false]
end Go.Pl

/- A part of the proof that a law of the seat holds: ZLaw5. -/
import Derived.Test.YtleaogcnndhdgaaLawB
namespace Go.Proofs.Ytleaogcnndhdgaa
open Go Go.Av Go.RowKit

theorem e72 : F72 = F70 := rfl
theorem e50 : F50 = F47 := rfl
theorem e22 : F22_L1 = F20_L1 := rfl

theorem f70 {n : Nat} (hn : 4 < n) (c : V4 Int) (m : Int) : ∃ v, F70 n c m = some v := by
  obtain ⟨k, rfl⟩ : ∃ k, n = k + 5 := ⟨n - 5, by omega⟩
  unfold F70
  by_cases h0 : bits .and .i64 (sr64 m 0) 1 = 0 <;> by_cases h1 : bits .and .i64 (sr64 m 1) 1 = 0 <;> by_cases h2 : bits .and .i64 (sr64 m 2) 1 = 0 <;> by_cases h3 : bits .and .i64 (sr64 m 3) 1 = 0 <;>
    simp [fx_succ, F70_L1, F70_J2, ck, br, w64_1, w64_2, w64_3, w64_4, h0, h1, h2, h3]

theorem f47 {n : Nat} {l : List (V4 Int)} {m : Int} (h4 : 4 < n) (hb : l.length ≤ 1048576) : ∀ (d i k : Nat) (acc : List (V4 Int)), i + d = l.length → acc.length = i → d < k → ∃ v, fx (F47_L1 n l m) k (acc, (i : Int)) = some v ∧ v.length = l.length
  | 0, i, k + 1, acc, h, ha, _ => by
    have : i = l.length := by omega
    refine ⟨acc, ?_, by omega⟩
    subst this
    simp only [fx_succ, F47_L1, lt_eq, Int.lt_irrefl, decide_false, br_false]
  | d + 1, i, k + 1, acc, h, ha, hk => by
    have h1 : ((i : Int) < (l.length : Int)) := by omega
    obtain ⟨c, hc⟩ := f70 h4 (gl l i) m
    obtain ⟨v, hv, hl⟩ := f47 (m := m) h4 hb d (i + 1) k (acc ++ [c]) (by omega) (by simp [ha]) (by omega)
    refine ⟨v, ?_, hl⟩
    simp only [fx_succ, F47_L1, lt_eq, decide_eq_true h1, br_true, Int.toNat_natCast, hc, ob_some]
    rw [ck_pos (by omega), ck_pos (by simp [ha]; omega), w64_nat (by omega)]; exact hv
  | _, _, 0, _, _, _, hk => by omega

theorem f20 {n : Nat} {c : V4 Int} {l : List (V4 Int)} (hb : l.length ≤ 1048576) : ∀ (d i k : Nat) (acc : Int), i + d = l.length → d < k → ∃ v, fx (F20_L1 n c l) k (acc, (i : Int)) = some v
  | 0, i, k + 1, acc, h, _ => by
    have : i = l.length := by omega
    refine ⟨(acc, true), ?_⟩
    subst this
    simp only [fx_succ, F20_L1, lt_eq, Int.lt_irrefl, decide_false, br_false]
  | d + 1, i, k + 1, acc, h, hk => by
    have h1 : ((i : Int) < (l.length : Int)) := by omega
    have go : ∀ acc', ∃ v, fx (F20_L1 n c l) k (acc', ((i + 1 : Nat) : Int)) = some v := fun acc' => f20 hb d (i + 1) k acc' (by omega) (by omega)
    simp only [fx_succ, F20_L1, lt_eq, decide_eq_true h1, br_true, Int.toNat_natCast]
    rw [ck_pos (by omega)]
    cases eqV4 (gl l i) c
    · simp only [br_false, F20_J2, w64_nat (show i < 4294967296 by omega)]; exact go _
    · simp only [br_true, F20_J2, w64_nat (show i < 4294967296 by omega)]; exact go _
  | _, _, 0, _, _, hk => by omega

theorem f20_22 {n : Nat} {l : List (V4 Int)} {m : Int} {c : V4 Int} (hl : l.length < n) (h4 : 4 < n) (hb : l.length ≤ 1048576) : ∃ v, F20 n l m c = some v ∧ F22 n l m c = some v := by
  obtain ⟨x, hx, hxl⟩ := f47 (n := n) (l := l) (m := m) h4 hb l.length 0 n [] (by omega) rfl hl
  rw [show ((0 : Nat) : Int) = 0 from rfl] at hx
  obtain ⟨v, hv⟩ := f20 (n := n) (c := c) (l := x) (by omega) x.length 0 n 0 (by omega) (by omega)
  rw [show ((0 : Nat) : Int) = 0 from rfl] at hv
  have hF : F47 n l m = some x := hx
  unfold F20 F22 F45 F48
  simp only [f44 hl h4 hb, f42 hl h4 hb, f67, f43, f46 h4, f49 h4, e50, e22, hF, hv, ob_some]
  cases hand l <;> cases decide (1 ≤ m ∧ m ≤ 15) <;> cases isC c <;> exact ⟨_, rfl, rfl⟩

theorem f5 {n : Nat} {l : List (V4 Int)} {m : Int} {c : V4 Int} (hl : l.length ≤ 9223372036854775807) (hn : 1048580 ≤ n) : F5 n l m c = some true := by
  unfold F5
  rw [f10 n (by omega)]
  by_cases h1 : (1048576 : Int) - (l.length : Int) < 0
  · rw [if_pos h1]; rfl
  rw [if_neg h1]
  have h4 : 4 < n := by omega
  have e1 := f12 (n := n) (l := l) (by omega) h4 (by omega)
  have e3 := f14 (n := n) (l := l) (by omega) h4 (by omega)
  obtain ⟨v, e5, e6⟩ := f20_22 (n := n) (l := l) (m := m) (c := c) (by omega) h4 (by omega)
  obtain ⟨v1, v2⟩ := v
  have : (v2 == v2) = true := by simp
  simp only [ob_some, decide_eq_false h1, br_false, e1, f21 h4, e5, e6, decide_true, this, Bool.not_true, e3]
end Go.Proofs.Ytleaogcnndhdgaa

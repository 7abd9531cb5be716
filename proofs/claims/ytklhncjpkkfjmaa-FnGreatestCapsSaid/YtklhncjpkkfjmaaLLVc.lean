/- Plain laws: LVc. -/
import Derived.Test.YtklhncjpkkfjmaaLLLn
import Derived.Test.YtklhncjpkkfjmaaPL
set_option linter.unusedVariables false
set_option linter.unusedSimpArgs false
namespace Go.Pl
open Go Go.Tv Go.RowKit
set_option linter.unusedVariables false
set_option linter.unusedSimpArgs false

/-! words that many laws share -/
theorem ok_bytes' {a : List Int} (h : (Ty.sl (.int .u8)).ok a) : ∀ x, x ∈ a → 0 ≤ x ∧ x ≤ 255 := fun x hx => bounds_u8 (h.2 x hx)
theorem i_LinesIn_eq {n : Nat} (hn : BIG ≤ n) {h : List Card} (hl : h.length ≤ 1048576) : i_LinesIn n h = some (if hand h then (true, linesOf h) else (false, [])) := by
  unfold i_LinesIn
  rw [i_IsHand_eq hn (by omega), ob_some]
  cases hh : hand h with
  | false => rfl
  | true =>
    have := hand_len hh
    rw [Bool.not_true, br_false, i_linesIn_eq hn (by omega) (hand_all hh) (hand_nodup hh), ob_some]; rfl
def ByB (a : List Int) : Prop := ∀ x, x ∈ a → 0 ≤ x ∧ x ≤ 255
theorem vCut_J1_ok {n : Nat} {a : List Int} (h : ByB a) (hl : a.length ≤ 65536) {k : Nat} (hk : k ≤ a.length) (hk2 : k ≤ 255) : ∃ b, v_vCut_J1 n (a, (k : Int)) = some b ∧ ByB b ∧ b.length ≤ 65537 := by
  unfold v_vCut_J1
  simp only [toNat_cast]
  have hsl : (sub a k a.length).length = a.length - k := by simp [sub]
  rw [ckb_pos (slb_ok (by omega) (by omega) (by omega)), ckb_pos (apok_ok (by rw [hsl]; omega) (by rw [hsl]; omega)), lt_eq, ckb_pos (apok_ok (by rw [hsl]; omega) (by rw [hsl]; omega))]
  refine ⟨_, rfl, fun x hx => ?_, by rw [List.length_append, hsl, List.length_singleton]; omega⟩
  rcases List.mem_append.1 hx with hx | hx
  · exact h x (List.mem_of_mem_drop (List.mem_of_mem_take hx))
  · rw [List.mem_singleton] at hx
    rw [hx]
    simp only [IntKind.wrap, IntKind.bits, IntKind.signed]
    simp
    omega
theorem vCut_ok {n : Nat} {a : List Int} (h : ByB a) (hl : a.length ≤ 65536) {k : Nat} (hk2 : k ≤ 255) : ∃ b, v_vCut n a (k : Int) = some b ∧ ByB b ∧ b.length ≤ 65537 := by
  unfold v_vCut
  rw [br_dec]
  split
  · exact vCut_J1_ok h hl (Nat.le_refl _) (by omega)
  · exact vCut_J1_ok h hl (by omega) hk2
theorem sub_among {l : List Int} {k : Nat} (hk : k ≤ l.length) (hk1 : 1 ≤ k) (lo hi : Int) (hl : ∀ x ∈ l, lo ≤ x ∧ x ≤ hi) : 1 ≤ (sub l 0 (0 + k)).length ∧ ∀ x ∈ sub l 0 (0 + k), lo ≤ x ∧ x ≤ hi := by
  unfold sub
  refine ⟨by simp; omega, fun x hx => hl x (List.mem_of_mem_drop (List.mem_of_mem_take hx))⟩
theorem i_LinesThrough_eq {n : Nat} (hn : BIG ≤ n) {h : List Card} (hl : h.length ≤ 1048576) (c : Card) : i_LinesThrough n h c = some (if hand h && isC c then ((thr h c : Int), true) else (0, false)) := by
  unfold i_LinesThrough
  rw [i_IsHand_eq hn (by omega), i_IsCard_eq hn]
  simp only [ob_some, br_some]
  cases hh : hand h with
  | false => rfl
  | true =>
    cases hc : isC c with
    | false => rfl
    | true =>
      show br false _ _ = _
      rw [br_false, i_pairsFor_eq hn (HandL.of hh), ob_some]; rfl
end Go.Pl

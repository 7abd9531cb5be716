/- Plain laws: LD2. -/
import Derived.Test.YtfoielhhflbbfaaLLD
import Derived.Test.YtfoielhhflbbfaaLL4
set_option linter.unusedVariables false
set_option linter.unusedSimpArgs false
namespace Go.Pl
open Go Go.Tv Go.RowKit
set_option linter.unusedVariables false
def cardAt (r : Int) : Card := ⟨Int.tdiv r 27, Int.tmod (Int.tdiv r 9) 3, Int.tmod (Int.tdiv r 3) 3, Int.tmod r 3⟩
theorem tdm {r : Int} (h : 0 ≤ r) (k : Int) (hk : 0 < k) : Int.tdiv r k = r / k ∧ Int.tmod r k = r % k := ⟨Int.tdiv_eq_ediv_of_nonneg h, Int.tmod_eq_emod_of_nonneg h⟩
theorem cardAt_e {r : Int} (h : 0 ≤ r) : cardAt r = ⟨r / 27, r / 9 % 3, r / 3 % 3, r % 3⟩ := by
  unfold cardAt
  rw [(tdm h 27 (by decide)).1, (tdm h 9 (by decide)).1, (tdm h 3 (by decide)).1, (tdm h 3 (by decide)).2, (tdm (r := r / 9) (by omega) 3 (by decide)).2, (tdm (r := r / 3) (by omega) 3 (by decide)).2]
theorem cardAt_isC {r : Int} (h : 0 ≤ r ∧ r ≤ 80) : isC (cardAt r) = true := by
  rw [cardAt_e h.1, isC_iff]
  refine ⟨⟨?_, ?_⟩, ⟨?_, ?_⟩, ⟨?_, ?_⟩, ?_, ?_⟩ <;> show _ ≤ _ <;> simp only [] <;> omega
theorem cardAt_num {c : Card} (h : isC c = true) : cardAt (num c) = c := by
  have hb := num_bd h
  rw [cardAt_e hb.1]
  obtain ⟨⟨a, b⟩, ⟨a1, b1⟩, ⟨a2, b2⟩, a3, b3⟩ := isC_iff.1 h
  cases c with | _ x y z w =>
  simp only [] at a b a1 b1 a2 b2 a3 b3
  unfold num
  simp only [V4.mk.injEq]
  omega
theorem s_l2At_eq (n : Nat) {r : Int} (h : 0 ≤ r ∧ r ≤ 80) : s_l2At n r = some (cardAt r) := by
  unfold s_l2At cardAt
  simp only [lt_eq]
  have e := tdm h.1 27 (by decide); have e1 := tdm h.1 9 (by decide); have e2 := tdm h.1 3 (by decide)
  rw [w64_id (x := Int.tdiv r 27) (by rw [e.1]; omega), w64_id (x := Int.tdiv r 9) (by rw [e1.1]; omega), w64_id (x := Int.tdiv r 3) (by rw [e2.1]; omega)]
theorem i_card_eq (n : Nat) {r : Int} (h : 0 ≤ r ∧ r ≤ 80) : i_card n r = some (cardAt r) := s_l2At_eq n h
theorem card_ok (n : Nat) {m : Nat} {c : Cu} (h : CuOK m c) (hm : m < 4611686018427387800) : ∃ r c', s_Cur_card'p n c = some (r, c') ∧ CuOK (m + 8) c' := by
  unfold s_Cur_card'p
  obtain ⟨r, c1, e1, h1, hr0, hr⟩ := pick_ok n h (by omega) (a := 81) (by omega)
  rw [e1, ob_some, s_l2At_eq n (by omega), ob_some]
  obtain ⟨b, c2, e2, h2⟩ := one_ok n h1 (by omega) (a := 40) (by omega)
  rw [e2, ob_some]
  cases b with
  | false => exact ⟨_, _, rfl, h2.mono (by omega)⟩
  | true =>
    simp only [br_true]
    obtain ⟨k, c3, e3, h3, hk0, hk⟩ := pick_ok n h2 (by omega) (a := 4) (by omega)
    rw [e3, ob_some]
    obtain ⟨y, c4, e4, h4, _⟩ := among_ok n h3 (by omega) (l := [(-1), 3, 4611686018427387904, (-9223372036854775808)]) (by decide)
    rw [e4, ob_some, ckb_pos (inb_pos hk0 hk)]
    exact ⟨_, _, rfl, h4⟩
end Go.Pl

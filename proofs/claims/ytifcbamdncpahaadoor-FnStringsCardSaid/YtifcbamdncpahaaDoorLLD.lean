/- Plain laws: LD. -/
import Derived.Test.YtifcbamdncpahaaDoorLL2b
import Derived.Test.YtifcbamdncpahaaDoorPL
set_option linter.unusedVariables false
set_option linter.unusedSimpArgs false
namespace Go.Pl
open Go Go.Tv Go.RowKit
set_option linter.unusedVariables false
abbrev Cu := (List Int) × (Int × Int)
def CuB (c : Cu) : Prop := ∀ x, x ∈ c.1 → 0 ≤ x ∧ x ≤ 255
structure CuOK (m : Nat) (c : Cu) : Prop where
  b : CuB c
  lo : 0 ≤ c.2.1
  hi : c.2.1 ≤ m
theorem CuOK.mono {m m' : Nat} {c : Cu} (h : CuOK m c) (hm : m ≤ m') : CuOK m' c := ⟨h.b, h.lo, by have := h.hi; omega⟩
theorem and255 (x : Int) : 0 ≤ bits .and .u64 x 255 ∧ bits .and .u64 x 255 ≤ 255 := by
  have h : (BitVec.ofInt 64 x &&& BitVec.ofInt 64 255).toNat ≤ 255 := by
    rw [BitVec.toNat_and]
    exact Nat.and_le_right
  have e : bits .and .u64 x 255 = IntKind.u64.wrap ((BitVec.ofInt 64 x &&& BitVec.ofInt 64 255).toNat : Int) := rfl
  rw [e]
  generalize (BitVec.ofInt 64 x &&& BitVec.ofInt 64 255).toNat = q at h
  simp only [IntKind.wrap, IntKind.bits, IntKind.signed]
  simp
  omega
theorem next_J1 (n : Nat) {m : Nat} {c : Cu} (h : CuOK m c) (hm : m < 4611686018427387904) {x : Int} (hx : 0 ≤ x ∧ x ≤ 255) :
    ∃ r c', s_Cur_next'p_J1 n (x, c) = some (r, c') ∧ CuOK (m + 1) c' ∧ 0 ≤ r ∧ r ≤ 255 := by
  have h1 := h.lo; have h2 := h.hi
  unfold s_Cur_next'p_J1
  simp only [lt_eq]
  rw [w64_id (x := c.2.1 + 1) (by omega)]
  rw [br_dec]
  split
  · exact ⟨_, _, rfl, ⟨h.b, by show 0 ≤ c.2.1 + 1; omega, by show c.2.1 + 1 ≤ ((m + 1 : Nat) : Int); omega⟩, hx⟩
  · have h3 := and255 (shrI .u64 (IntKind.wrap .u64 (IntKind.wrap .u64 (IntKind.wrap .u64 (c.2.2 * 6364136223846793005) + IntKind.wrap .u64 x) + 462197)) 40)
    refine ⟨_, _, rfl, ⟨h.b, by show 0 ≤ c.2.1 + 1; omega, by show c.2.1 + 1 ≤ ((m + 1 : Nat) : Int); omega⟩, ?_⟩
    rw [w64_id (by omega)]
    exact h3
theorem next_ok (n : Nat) {m : Nat} {c : Cu} (h : CuOK m c) (hm : m < 4611686018427387904) : ∃ r c', s_Cur_next'p n c = some (r, c') ∧ CuOK (m + 1) c' ∧ 0 ≤ r ∧ r ≤ 255 := by
  unfold s_Cur_next'p
  rw [br_dec]
  split
  · rename_i hlt
    have h1 := h.lo
    obtain ⟨k, hk⟩ : ∃ k : Nat, c.2.1 = k := ⟨c.2.1.toNat, by omega⟩
    have hkl : k < c.1.length := by omega
    rw [ckb_pos (inb_pos h1 hlt)]
    have hb := h.b _ (List.getElem_mem hkl)
    have e : gl 0 c.1 c.2.1.toNat = c.1[k] := by rw [hk, toNat_cast, gl_eq hkl]
    rw [lt_eq, e, w64_id (by omega)]
    exact next_J1 n h hm hb
  · exact next_J1 n h hm (by omega)
theorem pick_ok (n : Nat) {m : Nat} {c : Cu} (h : CuOK m c) (hm : m < 4611686018427387900) {a : Int} (ha : 1 ≤ a) :
    ∃ r c', s_Cur_pick'p n a c = some (r, c') ∧ CuOK (m + 2) c' ∧ 0 ≤ r ∧ r < a := by
  unfold s_Cur_pick'p
  rw [br_dec]
  split
  · exact ⟨0, c, rfl, h.mono (by omega), by omega, by omega⟩
  · obtain ⟨r, c1, e1, h1, hr⟩ := next_ok n h (by omega)
    rw [e1, ob_some, br_dec]
    have hne : (!decide (a = 0)) = true := by simp; omega
    split
    · obtain ⟨r2, c2, e2, h2, hr2⟩ := next_ok n h1 (by omega)
      simp only [lt_eq]
      rw [e2, ob_some, w64_id (x := r * 256) (by omega), w64_id (by omega), ckb_pos hne]
      refine ⟨_, _, rfl, h2, ?_⟩
      rw [Int.tmod_eq_emod_of_nonneg (by omega)]
      exact ⟨Int.emod_nonneg _ (by omega), Int.emod_lt_of_pos _ (by omega)⟩
    · rw [ckb_pos hne, lt_eq]
      refine ⟨_, _, rfl, h1.mono (by omega), ?_⟩
      rw [Int.tmod_eq_emod_of_nonneg (by omega)]
      exact ⟨Int.emod_nonneg _ (by omega), Int.emod_lt_of_pos _ (by omega)⟩
theorem among_ok (n : Nat) {m : Nat} {c : Cu} (h : CuOK m c) (hm : m < 4611686018427387900) {l : List Int} (hl : 1 ≤ l.length) :
    ∃ r c', s_Cur_among'pl n l c = some (r, c') ∧ CuOK (m + 2) c' ∧ r ∈ l := by
  unfold s_Cur_among'pl
  obtain ⟨r, c1, e1, h1, hr0, hr⟩ := pick_ok n h hm (a := (l.length : Int)) (by omega)
  rw [e1, ob_some, ckb_pos (inb_pos hr0 hr)]
  refine ⟨_, _, rfl, h1, ?_⟩
  have hk : r.toNat < l.length := by omega
  rw [gl_eq hk]
  exact List.getElem_mem hk
theorem one_ok (n : Nat) {m : Nat} {c : Cu} (h : CuOK m c) (hm : m < 4611686018427387900) {a : Int} (ha : 1 ≤ a) :
    ∃ r c', s_Cur_one'p n a c = some (r, c') ∧ CuOK (m + 2) c' := by
  unfold s_Cur_one'p
  obtain ⟨r, c1, e1, h1, hr0, hr⟩ := pick_ok n h hm ha
  rw [e1, ob_some]
  exact ⟨_, _, rfl, h1⟩
theorem cu0 {a : List Int} (h : ∀ x, x ∈ a → 0 ≤ x ∧ x ≤ 255) : CuOK 0 (a, (0, 0)) := ⟨h, Int.le_refl _, Int.le_refl _⟩
end Go.Pl

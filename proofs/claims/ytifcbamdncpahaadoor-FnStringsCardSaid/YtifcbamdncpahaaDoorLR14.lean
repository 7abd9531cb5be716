/- Plain laws: R14. -/
import Derived.Test.YtifcbamdncpahaaDoorLLJn
import Derived.Test.YtifcbamdncpahaaDoorLLVc
set_option linter.unusedVariables false
set_option linter.unusedSimpArgs false
namespace Go.Pl
open Go Go.Tv Go.RowKit
theorem of_ok (n : Nat) {m : Nat} {c : Cu} (h : CuOK m c) (hm : m < 4611686018427387900) {l : List ByteArray} (hl : 1 ≤ l.length) :
    ∃ r c', s_Cur_of'pl n l c = some (r, c') ∧ CuOK (m + 2) c' ∧ r ∈ l := by
  unfold s_Cur_of'pl
  obtain ⟨r, c1, e1, h1, hr0, hr⟩ := pick_ok n h hm (a := (l.length : Int)) (by omega)
  rw [e1, ob_some, ckb_pos (inb_pos hr0 hr)]
  refine ⟨_, _, rfl, h1, ?_⟩
  have hk : r.toNat < l.length := by omega
  rw [gl_eq hk]
  exact List.getElem_mem hk
theorem any1_ok (n : Nat) {m : Nat} {c : Cu} (h : CuOK m c) (hm : m < 4611686018427387900) : ∃ r c', s_Cur_any1'p n c = some (r, c') ∧ CuOK (m + 2) c' ∧ r.size ≤ 10 := by
  unfold s_Cur_any1'p
  obtain ⟨r, c1, e1, h1, hr⟩ := of_ok n h hm (l := [(⟨#[]⟩ : ByteArray), (⟨#[97]⟩ : ByteArray), (⟨#[97, 44, 98]⟩ : ByteArray), (⟨#[115, 111, 109, 101, 32, 119, 111, 114, 100, 115]⟩ : ByteArray), (⟨#[120, 35, 121]⟩ : ByteArray), (⟨#[45, 49, 50]⟩ : ByteArray), (⟨#[0, 255]⟩ : ByteArray), (⟨#[44, 44]⟩ : ByteArray), (⟨#[48]⟩ : ByteArray)]) (by simp)
  rw [e1, ob_some]
  refine ⟨_, _, rfl, h1, ?_⟩
  change r.size ≤ 10
  simp only [List.mem_cons, List.mem_nil_iff, or_false] at hr
  rcases hr with rfl | rfl | rfl | rfl | rfl | rfl | rfl | rfl | rfl <;> decide
end Go.Pl

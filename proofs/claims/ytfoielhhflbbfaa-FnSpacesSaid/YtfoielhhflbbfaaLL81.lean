/- Plain laws: L81. -/
import Derived.Test.YtfoielhhflbbfaaLLX1
import Derived.KernelRfl
set_option linter.unusedVariables false
set_option linter.unusedSimpArgs false
namespace Go.Pl
open Go Go.Tv Go.RowKit
def cardN (k : Nat) : Card := ⟨((k / 27 : Nat) : Int), ((k / 9 % 3 : Nat) : Int), ((k / 3 % 3 : Nat) : Int), ((k % 3 : Nat) : Int)⟩
def cards81 : List Card := (List.range 81).map cardN
theorem mem_cards81 {c : Card} (h : isC c = true) : c ∈ cards81 := by
  rw [isC_iff] at h
  obtain ⟨c0, c1, c2, c3⟩ := c
  simp only at h
  refine List.mem_map.2 ⟨(27 * c0 + 9 * c1 + 3 * c2 + c3).toNat, by rw [List.mem_range]; omega, ?_⟩
  unfold cardN
  congr 1 <;> omega
end Go.Pl

/- Plain laws: LSum. -/
import Derived.Test.YtkhfihbaopbblaaDoorLLP0
set_option linter.unusedVariables false
set_option linter.unusedSimpArgs false
namespace Go.Pl
open Go Go.Tv
def S : Nat → (Nat → Nat) → Nat
  | 0, _ => 0
  | n + 1, f => S n f + f n
def T (n : Nat) (g : Nat → Nat → Nat) : Nat := S n fun i => S i (g i)
def b2 (b : Bool) : Nat := if b = true then 1 else 0
end Go.Pl

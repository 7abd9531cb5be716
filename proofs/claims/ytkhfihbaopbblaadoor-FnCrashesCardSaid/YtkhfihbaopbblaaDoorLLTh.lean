/- Plain laws: LTh. -/
import Derived.Test.YtkhfihbaopbblaaDoorLLR
import Derived.Test.YtkhfihbaopbblaaDoorLLSo1
import Derived.Test.YtkhfihbaopbblaaDoorLLD2
set_option linter.unusedVariables false
set_option linter.unusedSimpArgs false
namespace Go.Pl
open Go Go.Tv Go.RowKit
set_option linter.unusedVariables false
structure HandL (h : List Card) : Prop where
  c : AllC h
  nd : h.Nodup
  len : h.length ≤ 100
theorem HandL.of {h : List Card} (hh : hand h = true) : HandL h := ⟨hand_all hh, hand_nodup hh, by have := hand_len hh; omega⟩
end Go.Pl

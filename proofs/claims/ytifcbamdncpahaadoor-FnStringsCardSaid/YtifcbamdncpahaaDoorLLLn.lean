/- Plain laws: LLn. -/
import Derived.Test.YtifcbamdncpahaaDoorLLTh
import Derived.Test.YtifcbamdncpahaaDoorLLSum
import Derived.Test.YtifcbamdncpahaaDoorLL7
set_option linter.unusedVariables false
set_option linter.unusedSimpArgs false
namespace Go.Pl
open Go Go.Tv Go.RowKit
set_option linter.unusedVariables false
abbrev gz (h : List Card) (i : Nat) : Card := gl (⟨0, 0, 0, 0⟩ : Card) h i
structure LineAt (h : List Card) (i j k : Nat) : Prop where
  ij : i < j
  jk : j < k
  kl : k < h.length
  e : third (gz h i) (gz h j) = gz h k
theorem LineAt.all {h : List Card} (H : HandL h) {i j k : Nat} (L : LineAt h i j k) : third (gz h i) (gz h j) = gz h k ∧ third (gz h i) (gz h k) = gz h j ∧ third (gz h j) (gz h k) = gz h i := by
  have h1 := L.ij; have h2 := L.jk; have h3 := L.kl
  have ci : isC (gz h i) = true := gl_C H.c (by omega)
  have cj : isC (gz h j) = true := gl_C H.c (by omega)
  refine ⟨L.e, ?_, ?_⟩
  · rw [← L.e, th_back ci cj]
  · rw [← L.e, th_comm (gz h i), th_back cj ci]
end Go.Pl

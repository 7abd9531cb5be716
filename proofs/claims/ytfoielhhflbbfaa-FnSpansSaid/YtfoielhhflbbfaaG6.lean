/- Plain laws: LLn, LLa, LLb, LFr, LWo. -/
import Derived.Test.YtfoielhhflbbfaaG3
import Derived.Test.YtfoielhhflbbfaaG4
import Derived.Test.YtfoielhhflbbfaaG5
import Derived.Test.YtfoielhhflbbfaaPL
import Derived.Test.YtfoielhhflbbfaaG0
import Derived.KernelRfl
set_option linter.unusedVariables false
set_option linter.unusedSimpArgs false
namespace Go.Pl
open Go Go.Tv Go.RowKit
set_option linter.unusedVariables false
abbrev gz (h : List Card) (i : Nat) : Card := gl (⟨0, 0, 0, 0⟩ : Card) h i
structure LineAt (h : List Card) (i j k : Nat) : Prop where
  ij : i < j
  jk : j < k
  kl : k < h.length
  e : third (gz h i) (gz h j) = gz h k
theorem LineAt.all {h : List Card} (H : HandL h) {i j k : Nat} (L : LineAt h i j k) : third (gz h i) (gz h j) = gz h k ∧ third (gz h i) (gz h k) = gz h j ∧ third (gz h j) (gz h k) = gz h i := by
  have h1 := L.ij; have h2 := L.jk; have h3 := L.kl
  have ci : isC (gz h i) = true := gl_C H.c (by omega)
  have cj : isC (gz h j) = true := gl_C H.c (by omega)
  refine ⟨L.e, ?_, ?_⟩
  · rw [← L.e, th_back ci cj]
  · rw [← L.e, th_comm (gz h i), th_back cj ci]
end Go.Pl
namespace Go.Pl
open Go Go.Tv Go.RowKit
set_option linter.unusedVariables false
def cl (N : Nat) (f : Nat → Int) : List Int := (List.range' 0 (N - 0)).map f
end Go.Pl
namespace Go.Pl
open Go Go.Tv Go.RowKit
set_option linter.unusedVariables false
end Go.Pl
namespace Go.Pl
open Go Go.Tv Go.RowKit
set_option linter.unusedVariables false
end Go.Pl
namespace Go.Pl
open Go Go.Tv Go.RowKit
set_option linter.unusedVariables false
end Go.Pl

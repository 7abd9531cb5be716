/-
  DERIVED. GIVEN WITH THE SEED: THE CARDS: each row of YtkhfihbaopbblaaGreatDoorRows.lean that lists a variable, with what it lists TIED to the program's text (the seventh form; the later family's looks); each row that meets fmt, with fmt's text TOLD by the authors' own Lean function (tested against real Go, not proved from fmt's source: count such statements apart). THE CARD IS WHAT COUNTS. Prove the row's statement (the work); the ties are given (YtkhfihbaopbblaaGreatDoorTie.lean); close each card by the builder's one call (the guide's Derived/Test/ToyasCard.lean, 'card_holds'). Laid BY PROGRAM, IN A SANDBOX (cutbox-door.mjs). By AI agents, Wed Nov 11 2026. No macro, syntax, notation, axiom, sorry.
-/
import Derived.Test.YtkhfihbaopbblaaGreatDoorRows
import GoSem.ClaimSeven
namespace Go.Proofs.YtkhfihbaopbblaaGreatDoor
namespace Rows

/-- THE TIED CARD OF 'laws.FnHands'. -/
def fnHandsCard : Claim7 := { stood := { row := fnHandsRow, standIns := [], harness := (true, "68d68c2fba65878f9ac295425b42e412267f90477f13c0049b20f2adad79d67d"), looks := false }, kinds := [], alts := [], laidByText := true, laidKinds := [.data, .pinned], laidTests := true, laidLooks := .later }
def FnHandsCardSaid : Prop := Claim7.holds Tryz.pinned (.plain (OpenSpec.ofChange fnHandsSpec)) fnHandsCard

/-- THE SECOND FORM's CARD OF 'laws.FnHands'. -/
def fnHandsUptoCard : Claim7 := { stood := { row := fnHandsUptoRow, standIns := [], harness := (true, "68d68c2fba65878f9ac295425b42e412267f90477f13c0049b20f2adad79d67d"), looks := false }, kinds := [], alts := [], laidByText := true, laidKinds := [.data, .pinned], laidTests := true, laidLooks := .later }
def FnHandsUptoCardSaid : Prop := Claim7.holds Tryz.pinned (.plain (OpenSpec.upto fnHandsSpec)) fnHandsUptoCard
end Rows
end Go.Proofs.YtkhfihbaopbblaaGreatDoor

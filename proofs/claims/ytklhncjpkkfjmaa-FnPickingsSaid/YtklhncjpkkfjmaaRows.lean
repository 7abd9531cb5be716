/-
  No cell of these rows narrows 'for every input' (looked for: loops, veiled, ifaces, maps, wideKeys, modest, calm, conditions, laid).
  DERIVED. THE GIVEN ROWS OF THIS SEAT. 8 by the template 'for every input the law returns true; each argument reads behind the call as it read before'; 0 by the template 'total and deterministic' (their statements: YtklhncjpkkfjmaaTotals.lean).
  GIVEN WITH THE SEED: the statements are not yours to turn. If you find one false, say at which input.
  Laid BY PROGRAM, IN A SANDBOX (cutbox-rows.mjs): the forced cells as the released guide's own fill.sh prints them over the translation 5b7c886cbf5e260b… (all of the seat's roots in one cut). By AI agents, Wed Nov 11 2026. No macro, syntax, notation, axiom, sorry.
-/
import Derived.Test.YtklhncjpkkfjmaaChecked
import GoSem.Claim
import GoSem.ClaimJoined
import GoSem.ClaimMapViews
import Derived.JoinedTies
import Derived.KernelRfl
namespace Go.Proofs.Ytklhncjpkkfjmaa
/- THE CELL 'sum', in the pinned program and in every row, IS THE sha256 OF THE DUMP (.gsa) THAT YtklhncjpkkfjmaaProg.lean LOADS. Nothing in Lean hashes anything: it is a label: what it is worth is what the hold of that sum in a sandbox is worth. -/
noncomputable def Try.pinned : Pinned := { name := "ytklhncjpkkfjmaa", sum := "5b7c886cbf5e260b7b23e7d04181d678ca833a5877665d22eacd7e601191a642", checked := Try.checked }
namespace Rows
def none {H : Type} : Left H := { results := [], args := [] }

/-- 'laws.FnPickings': WHATEVER THE INPUT: true; the input reads as it did. -/
def fnPickingsSpec : ChangeSpec := { name := "fnPickings", fn := fun _ => fun
  | [d] => { results := [.lit (.bool true)], args := [d] }
  | _ => none }
def fnPickingsRow : OpenClaim := { program := "ytklhncjpkkfjmaa", sum := "5b7c886cbf5e260b7b23e7d04181d678ca833a5877665d22eacd7e601191a642", func := "loop.example/g01203/laws.FnPickings", spec := "fnPickings", unfollowed := true, recurses := true, apart := false }
def FnPickingsSaid : Prop := fnPickingsRow.holds Try.pinned (OpenSpec.ofChange fnPickingsSpec)

/-- ITS FALSE NEIGHBOUR: 'it returns false'. Refute it at one input. -/
def fnPickingsWrong : ChangeSpec := { name := "fnPickings", fn := fun _ => fun
  | [d] => { results := [.lit (.bool false)], args := [d] }
  | _ => none }
def FnPickingsWrongFalsely : Prop := fnPickingsRow.holds Try.pinned (OpenSpec.ofChange fnPickingsWrong)

/-- 'laws.FnExactNewConsole': WHATEVER THE INPUT: true; the input reads as it did. -/
def fnExactNewConsoleSpec : ChangeSpec := { name := "fnExactNewConsole", fn := fun _ => fun
  | [d] => { results := [.lit (.bool true)], args := [d] }
  | _ => none }
def fnExactNewConsoleRow : OpenClaim := { program := "ytklhncjpkkfjmaa", sum := "5b7c886cbf5e260b7b23e7d04181d678ca833a5877665d22eacd7e601191a642", func := "loop.example/g01203/laws.FnExactNewConsole", spec := "fnExactNewConsole", unfollowed := true, recurses := true, apart := false }
def FnExactNewConsoleSaid : Prop := fnExactNewConsoleRow.holds Try.pinned (OpenSpec.ofChange fnExactNewConsoleSpec)

/-- ITS FALSE NEIGHBOUR: 'it returns false'. Refute it at one input. -/
def fnExactNewConsoleWrong : ChangeSpec := { name := "fnExactNewConsole", fn := fun _ => fun
  | [d] => { results := [.lit (.bool false)], args := [d] }
  | _ => none }
def FnExactNewConsoleWrongFalsely : Prop := fnExactNewConsoleRow.holds Try.pinned (OpenSpec.ofChange fnExactNewConsoleWrong)

/-- 'laws.FnCards': WHATEVER THE INPUT: true; the input reads as it did. -/
def fnCardsSpec : ChangeSpec := { name := "fnCards", fn := fun _ => fun
  | [d] => { results := [.lit (.bool true)], args := [d] }
  | _ => none }
def fnCardsRow : OpenClaim := { program := "ytklhncjpkkfjmaa", sum := "5b7c886cbf5e260b7b23e7d04181d678ca833a5877665d22eacd7e601191a642", func := "loop.example/g01203/laws.FnCards", spec := "fnCards", unfollowed := true, recurses := true, apart := false }
def FnCardsSaid : Prop := fnCardsRow.holds Try.pinned (OpenSpec.ofChange fnCardsSpec)

/-- ITS FALSE NEIGHBOUR: 'it returns false'. Refute it at one input. -/
def fnCardsWrong : ChangeSpec := { name := "fnCards", fn := fun _ => fun
  | [d] => { results := [.lit (.bool false)], args := [d] }
  | _ => none }
def FnCardsWrongFalsely : Prop := fnCardsRow.holds Try.pinned (OpenSpec.ofChange fnCardsWrong)

/-- 'laws.FnExactPointsAhead': WHATEVER THE INPUT: true; the input reads as it did. -/
def fnExactPointsAheadSpec : ChangeSpec := { name := "fnExactPointsAhead", fn := fun _ => fun
  | [d] => { results := [.lit (.bool true)], args := [d] }
  | _ => none }
def fnExactPointsAheadRow : OpenClaim := { program := "ytklhncjpkkfjmaa", sum := "5b7c886cbf5e260b7b23e7d04181d678ca833a5877665d22eacd7e601191a642", func := "loop.example/g01203/laws.FnExactPointsAhead", spec := "fnExactPointsAhead", unfollowed := true, recurses := true, apart := false }
def FnExactPointsAheadSaid : Prop := fnExactPointsAheadRow.holds Try.pinned (OpenSpec.ofChange fnExactPointsAheadSpec)

/-- ITS FALSE NEIGHBOUR: 'it returns false'. Refute it at one input. -/
def fnExactPointsAheadWrong : ChangeSpec := { name := "fnExactPointsAhead", fn := fun _ => fun
  | [d] => { results := [.lit (.bool false)], args := [d] }
  | _ => none }
def FnExactPointsAheadWrongFalsely : Prop := fnExactPointsAheadRow.holds Try.pinned (OpenSpec.ofChange fnExactPointsAheadWrong)

/-- 'laws.FnGreatestCaps': WHATEVER THE INPUT: true; the input reads as it did. -/
def fnGreatestCapsSpec : ChangeSpec := { name := "fnGreatestCaps", fn := fun _ => fun
  | [d] => { results := [.lit (.bool true)], args := [d] }
  | _ => none }
def fnGreatestCapsRow : OpenClaim := { program := "ytklhncjpkkfjmaa", sum := "5b7c886cbf5e260b7b23e7d04181d678ca833a5877665d22eacd7e601191a642", func := "loop.example/g01203/laws.FnGreatestCaps", spec := "fnGreatestCaps", unfollowed := true, recurses := true, apart := false }
def FnGreatestCapsSaid : Prop := fnGreatestCapsRow.holds Try.pinned (OpenSpec.ofChange fnGreatestCapsSpec)

/-- ITS FALSE NEIGHBOUR: 'it returns false'. Refute it at one input. -/
def fnGreatestCapsWrong : ChangeSpec := { name := "fnGreatestCaps", fn := fun _ => fun
  | [d] => { results := [.lit (.bool false)], args := [d] }
  | _ => none }
def FnGreatestCapsWrongFalsely : Prop := fnGreatestCapsRow.holds Try.pinned (OpenSpec.ofChange fnGreatestCapsWrong)

/-- 'laws.FnLinesAt': WHATEVER THE INPUT: true; the input reads as it did. -/
def fnLinesAtSpec : ChangeSpec := { name := "fnLinesAt", fn := fun _ => fun
  | [d] => { results := [.lit (.bool true)], args := [d] }
  | _ => none }
def fnLinesAtRow : OpenClaim := { program := "ytklhncjpkkfjmaa", sum := "5b7c886cbf5e260b7b23e7d04181d678ca833a5877665d22eacd7e601191a642", func := "loop.example/g01203/laws.FnLinesAt", spec := "fnLinesAt", unfollowed := true, recurses := true, apart := false }
def FnLinesAtSaid : Prop := fnLinesAtRow.holds Try.pinned (OpenSpec.ofChange fnLinesAtSpec)

/-- ITS FALSE NEIGHBOUR: 'it returns false'. Refute it at one input. -/
def fnLinesAtWrong : ChangeSpec := { name := "fnLinesAt", fn := fun _ => fun
  | [d] => { results := [.lit (.bool false)], args := [d] }
  | _ => none }
def FnLinesAtWrongFalsely : Prop := fnLinesAtRow.holds Try.pinned (OpenSpec.ofChange fnLinesAtWrong)

/-- 'laws.FnExactCodewords': WHATEVER THE INPUT: true; the input reads as it did. -/
def fnExactCodewordsSpec : ChangeSpec := { name := "fnExactCodewords", fn := fun _ => fun
  | [] => { results := [.lit (.bool true)], args := [] }
  | _ => none }
def fnExactCodewordsRow : OpenClaim := { program := "ytklhncjpkkfjmaa", sum := "5b7c886cbf5e260b7b23e7d04181d678ca833a5877665d22eacd7e601191a642", func := "loop.example/g01203/laws.FnExactCodewords", spec := "fnExactCodewords", unfollowed := true, recurses := true, apart := false }
def FnExactCodewordsSaid : Prop := fnExactCodewordsRow.holds Try.pinned (OpenSpec.ofChange fnExactCodewordsSpec)

/-- ITS FALSE NEIGHBOUR: 'it returns false'. Refute it at one input. -/
def fnExactCodewordsWrong : ChangeSpec := { name := "fnExactCodewords", fn := fun _ => fun
  | [] => { results := [.lit (.bool false)], args := [] }
  | _ => none }
def FnExactCodewordsWrongFalsely : Prop := fnExactCodewordsRow.holds Try.pinned (OpenSpec.ofChange fnExactCodewordsWrong)

/-- 'laws.FnDeals': WHATEVER THE INPUT: true; the input reads as it did. -/
def fnDealsSpec : ChangeSpec := { name := "fnDeals", fn := fun _ => fun
  | [d] => { results := [.lit (.bool true)], args := [d] }
  | _ => none }
def fnDealsRow : OpenClaim := { program := "ytklhncjpkkfjmaa", sum := "5b7c886cbf5e260b7b23e7d04181d678ca833a5877665d22eacd7e601191a642", func := "loop.example/g01203/laws.FnDeals", spec := "fnDeals", unfollowed := true, recurses := true, apart := false }
def FnDealsSaid : Prop := fnDealsRow.holds Try.pinned (OpenSpec.ofChange fnDealsSpec)

/-- ITS FALSE NEIGHBOUR: 'it returns false'. Refute it at one input. -/
def fnDealsWrong : ChangeSpec := { name := "fnDeals", fn := fun _ => fun
  | [d] => { results := [.lit (.bool false)], args := [d] }
  | _ => none }
def FnDealsWrongFalsely : Prop := fnDealsRow.holds Try.pinned (OpenSpec.ofChange fnDealsWrong)

/- THE SECOND FORM. 'bulk': how many values and letters a reading holds, each counted each time it is reached (what is shared counts as often as it is met; a slice's spare places count too). A statement '..UptoSaid' is the law's where the arguments, and the package variables that the reading takes, are together of bulk at most 1048576: NARROWER than '..Said'. Prove '..Said' where nothing that the law and all that it calls make is longer than what came in: it says more and counts as full. Else prove '..UptoSaid'. A law counts once. -/
mutual
def uptoBulk {H : Type} : DataW H → Nat
  | .lit (.string bytes) => bytes.length + 1
  | .lit _ => 1
  | .nil => 1
  | .ptr d => uptoBulk d + 1
  | .slice elems spare => uptoBulkAll elems + uptoBulkAll spare + 1
  | .agg parts => uptoBulkAll parts + 1
  | .iface _ d => uptoBulk d + 1
  | .map entries => uptoBulkEntries entries + 1
  | .held _ => 1
def uptoBulkAll {H : Type} : List (DataW H) → Nat
  | [] => 0
  | d :: r => uptoBulk d + uptoBulkAll r
def uptoBulkEntries {H : Type} : List (Lit × DataW H) → Nat
  | [] => 0
  | x :: r => uptoBulkEntry x + uptoBulkEntries r
def uptoBulkEntry {H : Type} : Lit × DataW H → Nat
  | (.string bytes, d) => bytes.length + uptoBulk d + 1
  | (_, d) => uptoBulk d + 1
 end
def uptoSmall : (H : Type) → List (DataW H) → Bool := fun _ ds => decide (uptoBulkAll ds ≤ 1048576)
def OpenSpec.upto (s : _root_.Go.ChangeSpec) : _root_.Go.OpenSpec := { _root_.Go.OpenSpec.ofChange s with cond := some uptoSmall }

/-- 'laws.FnPickings', WHERE WHAT IT READS IS OF BULK AT MOST 1048576: true; the input reads as it did. -/
def fnPickingsUptoRow : OpenClaim := { program := "ytklhncjpkkfjmaa", sum := "5b7c886cbf5e260b7b23e7d04181d678ca833a5877665d22eacd7e601191a642", func := "loop.example/g01203/laws.FnPickings", spec := "fnPickings", unfollowed := true, recurses := true, apart := false, narrowed := true }
def FnPickingsUptoSaid : Prop := fnPickingsUptoRow.holds Try.pinned (OpenSpec.upto fnPickingsSpec)

/-- 'laws.FnExactNewConsole', WHERE WHAT IT READS IS OF BULK AT MOST 1048576: true; the input reads as it did. -/
def fnExactNewConsoleUptoRow : OpenClaim := { program := "ytklhncjpkkfjmaa", sum := "5b7c886cbf5e260b7b23e7d04181d678ca833a5877665d22eacd7e601191a642", func := "loop.example/g01203/laws.FnExactNewConsole", spec := "fnExactNewConsole", unfollowed := true, recurses := true, apart := false, narrowed := true }
def FnExactNewConsoleUptoSaid : Prop := fnExactNewConsoleUptoRow.holds Try.pinned (OpenSpec.upto fnExactNewConsoleSpec)

/-- 'laws.FnCards', WHERE WHAT IT READS IS OF BULK AT MOST 1048576: true; the input reads as it did. -/
def fnCardsUptoRow : OpenClaim := { program := "ytklhncjpkkfjmaa", sum := "5b7c886cbf5e260b7b23e7d04181d678ca833a5877665d22eacd7e601191a642", func := "loop.example/g01203/laws.FnCards", spec := "fnCards", unfollowed := true, recurses := true, apart := false, narrowed := true }
def FnCardsUptoSaid : Prop := fnCardsUptoRow.holds Try.pinned (OpenSpec.upto fnCardsSpec)

/-- 'laws.FnExactPointsAhead', WHERE WHAT IT READS IS OF BULK AT MOST 1048576: true; the input reads as it did. -/
def fnExactPointsAheadUptoRow : OpenClaim := { program := "ytklhncjpkkfjmaa", sum := "5b7c886cbf5e260b7b23e7d04181d678ca833a5877665d22eacd7e601191a642", func := "loop.example/g01203/laws.FnExactPointsAhead", spec := "fnExactPointsAhead", unfollowed := true, recurses := true, apart := false, narrowed := true }
def FnExactPointsAheadUptoSaid : Prop := fnExactPointsAheadUptoRow.holds Try.pinned (OpenSpec.upto fnExactPointsAheadSpec)

/-- 'laws.FnGreatestCaps', WHERE WHAT IT READS IS OF BULK AT MOST 1048576: true; the input reads as it did. -/
def fnGreatestCapsUptoRow : OpenClaim := { program := "ytklhncjpkkfjmaa", sum := "5b7c886cbf5e260b7b23e7d04181d678ca833a5877665d22eacd7e601191a642", func := "loop.example/g01203/laws.FnGreatestCaps", spec := "fnGreatestCaps", unfollowed := true, recurses := true, apart := false, narrowed := true }
def FnGreatestCapsUptoSaid : Prop := fnGreatestCapsUptoRow.holds Try.pinned (OpenSpec.upto fnGreatestCapsSpec)

/-- 'laws.FnLinesAt', WHERE WHAT IT READS IS OF BULK AT MOST 1048576: true; the input reads as it did. -/
def fnLinesAtUptoRow : OpenClaim := { program := "ytklhncjpkkfjmaa", sum := "5b7c886cbf5e260b7b23e7d04181d678ca833a5877665d22eacd7e601191a642", func := "loop.example/g01203/laws.FnLinesAt", spec := "fnLinesAt", unfollowed := true, recurses := true, apart := false, narrowed := true }
def FnLinesAtUptoSaid : Prop := fnLinesAtUptoRow.holds Try.pinned (OpenSpec.upto fnLinesAtSpec)

/-- 'laws.FnExactCodewords', WHERE WHAT IT READS IS OF BULK AT MOST 1048576: true; the input reads as it did. -/
def fnExactCodewordsUptoRow : OpenClaim := { program := "ytklhncjpkkfjmaa", sum := "5b7c886cbf5e260b7b23e7d04181d678ca833a5877665d22eacd7e601191a642", func := "loop.example/g01203/laws.FnExactCodewords", spec := "fnExactCodewords", unfollowed := true, recurses := true, apart := false, narrowed := true }
def FnExactCodewordsUptoSaid : Prop := fnExactCodewordsUptoRow.holds Try.pinned (OpenSpec.upto fnExactCodewordsSpec)

/-- 'laws.FnDeals', WHERE WHAT IT READS IS OF BULK AT MOST 1048576: true; the input reads as it did. -/
def fnDealsUptoRow : OpenClaim := { program := "ytklhncjpkkfjmaa", sum := "5b7c886cbf5e260b7b23e7d04181d678ca833a5877665d22eacd7e601191a642", func := "loop.example/g01203/laws.FnDeals", spec := "fnDeals", unfollowed := true, recurses := true, apart := false, narrowed := true }
def FnDealsUptoSaid : Prop := fnDealsUptoRow.holds Try.pinned (OpenSpec.upto fnDealsSpec)

end Rows
end Go.Proofs.Ytklhncjpkkfjmaa

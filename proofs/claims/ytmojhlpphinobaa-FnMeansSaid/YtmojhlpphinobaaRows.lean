/-
  No cell of these rows narrows 'for every input' (looked for: loops, veiled, ifaces, maps, wideKeys, modest, calm, conditions, laid).
  DERIVED. THE GIVEN ROWS OF THIS SEAT. 7 by the template 'for every input the law returns true; each argument reads behind the call as it read before'; 0 by the template 'total and deterministic' (their statements: YtmojhlpphinobaaTotals.lean).
  GIVEN WITH THE SEED: the statements are not yours to turn. If you find one false, say at which input.
  Laid BY PROGRAM, IN A SANDBOX (cutbox-rows.mjs): the forced cells as the released guide's own fill.sh prints them over the translation 293b5c76d9ba516d… (all of the seat's roots in one cut). By AI agents, Wed Nov 11 2026. No macro, syntax, notation, axiom, sorry.
-/
import Derived.Test.YtmojhlpphinobaaChecked
import GoSem.Claim
import GoSem.ClaimJoined
import GoSem.ClaimMapViews
import Derived.JoinedTies
import Derived.KernelRfl
namespace Go.Proofs.Ytmojhlpphinobaa
/- THE CELL 'sum', in the pinned program and in every row, IS THE sha256 OF THE DUMP (.gsa) THAT YtmojhlpphinobaaProg.lean LOADS. Nothing in Lean hashes anything: it is a label: what it is worth is what the hold of that sum in a sandbox is worth. -/
noncomputable def Try.pinned : Pinned := { name := "ytmojhlpphinobaa", sum := "293b5c76d9ba516d8c0c30a82eadc78e227b85acc123ecf33cbb5a6e204fc631", checked := Try.checked }
namespace Rows
def none {H : Type} : Left H := { results := [], args := [] }

/-- 'laws.FnExactNearestCodeword': WHATEVER THE INPUT: true; the input reads as it did. -/
def fnExactNearestCodewordSpec : ChangeSpec := { name := "fnExactNearestCodeword", fn := fun _ => fun
  | [d] => { results := [.lit (.bool true)], args := [d] }
  | _ => none }
def fnExactNearestCodewordRow : OpenClaim := { program := "ytmojhlpphinobaa", sum := "293b5c76d9ba516d8c0c30a82eadc78e227b85acc123ecf33cbb5a6e204fc631", func := "loop.example/g01203/laws.FnExactNearestCodeword", spec := "fnExactNearestCodeword", unfollowed := true, recurses := true, apart := false }
def FnExactNearestCodewordSaid : Prop := fnExactNearestCodewordRow.holds Try.pinned (OpenSpec.ofChange fnExactNearestCodewordSpec)

/-- ITS FALSE NEIGHBOUR: 'it returns false'. Refute it at one input. -/
def fnExactNearestCodewordWrong : ChangeSpec := { name := "fnExactNearestCodeword", fn := fun _ => fun
  | [d] => { results := [.lit (.bool false)], args := [d] }
  | _ => none }
def FnExactNearestCodewordWrongFalsely : Prop := fnExactNearestCodewordRow.holds Try.pinned (OpenSpec.ofChange fnExactNearestCodewordWrong)

/-- 'laws.FnMeans': WHATEVER THE INPUT: true; the input reads as it did. -/
def fnMeansSpec : ChangeSpec := { name := "fnMeans", fn := fun _ => fun
  | [d] => { results := [.lit (.bool true)], args := [d] }
  | _ => none }
def fnMeansRow : OpenClaim := { program := "ytmojhlpphinobaa", sum := "293b5c76d9ba516d8c0c30a82eadc78e227b85acc123ecf33cbb5a6e204fc631", func := "loop.example/g01203/laws.FnMeans", spec := "fnMeans", unfollowed := true, recurses := true, apart := false }
def FnMeansSaid : Prop := fnMeansRow.holds Try.pinned (OpenSpec.ofChange fnMeansSpec)

/-- ITS FALSE NEIGHBOUR: 'it returns false'. Refute it at one input. -/
def fnMeansWrong : ChangeSpec := { name := "fnMeans", fn := fun _ => fun
  | [d] => { results := [.lit (.bool false)], args := [d] }
  | _ => none }
def FnMeansWrongFalsely : Prop := fnMeansRow.holds Try.pinned (OpenSpec.ofChange fnMeansWrong)

/-- 'laws.FnDeckParting': WHATEVER THE INPUT: true; the input reads as it did. -/
def fnDeckPartingSpec : ChangeSpec := { name := "fnDeckParting", fn := fun _ => fun
  | [d] => { results := [.lit (.bool true)], args := [d] }
  | _ => none }
def fnDeckPartingRow : OpenClaim := { program := "ytmojhlpphinobaa", sum := "293b5c76d9ba516d8c0c30a82eadc78e227b85acc123ecf33cbb5a6e204fc631", func := "loop.example/g01203/laws.FnDeckParting", spec := "fnDeckParting", unfollowed := true, recurses := true, apart := false }
def FnDeckPartingSaid : Prop := fnDeckPartingRow.holds Try.pinned (OpenSpec.ofChange fnDeckPartingSpec)

/-- ITS FALSE NEIGHBOUR: 'it returns false'. Refute it at one input. -/
def fnDeckPartingWrong : ChangeSpec := { name := "fnDeckParting", fn := fun _ => fun
  | [d] => { results := [.lit (.bool false)], args := [d] }
  | _ => none }
def FnDeckPartingWrongFalsely : Prop := fnDeckPartingRow.holds Try.pinned (OpenSpec.ofChange fnDeckPartingWrong)

/-- 'laws.FnExactFirstRight': WHATEVER THE INPUT: true; the input reads as it did. -/
def fnExactFirstRightSpec : ChangeSpec := { name := "fnExactFirstRight", fn := fun _ => fun
  | [d1, d2] => { results := [.lit (.bool true)], args := [d1, d2] }
  | _ => none }
def fnExactFirstRightRow : OpenClaim := { program := "ytmojhlpphinobaa", sum := "293b5c76d9ba516d8c0c30a82eadc78e227b85acc123ecf33cbb5a6e204fc631", func := "loop.example/g01203/laws.FnExactFirstRight", spec := "fnExactFirstRight", unfollowed := true, recurses := true, apart := false }
def FnExactFirstRightSaid : Prop := fnExactFirstRightRow.holds Try.pinned (OpenSpec.ofChange fnExactFirstRightSpec)

/-- ITS FALSE NEIGHBOUR: 'it returns false'. Refute it at one input. -/
def fnExactFirstRightWrong : ChangeSpec := { name := "fnExactFirstRight", fn := fun _ => fun
  | [d1, d2] => { results := [.lit (.bool false)], args := [d1, d2] }
  | _ => none }
def FnExactFirstRightWrongFalsely : Prop := fnExactFirstRightRow.holds Try.pinned (OpenSpec.ofChange fnExactFirstRightWrong)

/-- 'laws.FnExactMakeClaim': WHATEVER THE INPUT: true; the input reads as it did. -/
def fnExactMakeClaimSpec : ChangeSpec := { name := "fnExactMakeClaim", fn := fun _ => fun
  | [d1, d2] => { results := [.lit (.bool true)], args := [d1, d2] }
  | _ => none }
def fnExactMakeClaimRow : OpenClaim := { program := "ytmojhlpphinobaa", sum := "293b5c76d9ba516d8c0c30a82eadc78e227b85acc123ecf33cbb5a6e204fc631", func := "loop.example/g01203/laws.FnExactMakeClaim", spec := "fnExactMakeClaim", unfollowed := true, recurses := true, apart := false }
def FnExactMakeClaimSaid : Prop := fnExactMakeClaimRow.holds Try.pinned (OpenSpec.ofChange fnExactMakeClaimSpec)

/-- ITS FALSE NEIGHBOUR: 'it returns false'. Refute it at one input. -/
def fnExactMakeClaimWrong : ChangeSpec := { name := "fnExactMakeClaim", fn := fun _ => fun
  | [d1, d2] => { results := [.lit (.bool false)], args := [d1, d2] }
  | _ => none }
def FnExactMakeClaimWrongFalsely : Prop := fnExactMakeClaimRow.holds Try.pinned (OpenSpec.ofChange fnExactMakeClaimWrong)

/-- 'laws.FnExactShadowHand': WHATEVER THE INPUT: true; the input reads as it did. -/
def fnExactShadowHandSpec : ChangeSpec := { name := "fnExactShadowHand", fn := fun _ => fun
  | [d1, d2] => { results := [.lit (.bool true)], args := [d1, d2] }
  | _ => none }
def fnExactShadowHandRow : OpenClaim := { program := "ytmojhlpphinobaa", sum := "293b5c76d9ba516d8c0c30a82eadc78e227b85acc123ecf33cbb5a6e204fc631", func := "loop.example/g01203/laws.FnExactShadowHand", spec := "fnExactShadowHand", unfollowed := true, recurses := true, apart := false }
def FnExactShadowHandSaid : Prop := fnExactShadowHandRow.holds Try.pinned (OpenSpec.ofChange fnExactShadowHandSpec)

/-- ITS FALSE NEIGHBOUR: 'it returns false'. Refute it at one input. -/
def fnExactShadowHandWrong : ChangeSpec := { name := "fnExactShadowHand", fn := fun _ => fun
  | [d1, d2] => { results := [.lit (.bool false)], args := [d1, d2] }
  | _ => none }
def FnExactShadowHandWrongFalsely : Prop := fnExactShadowHandRow.holds Try.pinned (OpenSpec.ofChange fnExactShadowHandWrong)

/-- 'laws.FnChances': WHATEVER THE INPUT: true; the input reads as it did. -/
def fnChancesSpec : ChangeSpec := { name := "fnChances", fn := fun _ => fun
  | [d] => { results := [.lit (.bool true)], args := [d] }
  | _ => none }
def fnChancesRow : OpenClaim := { program := "ytmojhlpphinobaa", sum := "293b5c76d9ba516d8c0c30a82eadc78e227b85acc123ecf33cbb5a6e204fc631", func := "loop.example/g01203/laws.FnChances", spec := "fnChances", unfollowed := true, recurses := true, apart := false }
def FnChancesSaid : Prop := fnChancesRow.holds Try.pinned (OpenSpec.ofChange fnChancesSpec)

/-- ITS FALSE NEIGHBOUR: 'it returns false'. Refute it at one input. -/
def fnChancesWrong : ChangeSpec := { name := "fnChances", fn := fun _ => fun
  | [d] => { results := [.lit (.bool false)], args := [d] }
  | _ => none }
def FnChancesWrongFalsely : Prop := fnChancesRow.holds Try.pinned (OpenSpec.ofChange fnChancesWrong)

/- THE SECOND FORM. 'bulk': how many values and letters a reading holds, each counted each time it is reached (what is shared counts as often as it is met; a slice's spare places count too). A statement '..UptoSaid' is the law's where the arguments, and the package variables that the reading takes, are together of bulk at most 1048576: NARROWER than '..Said'. Prove '..Said' where nothing that the law and all that it calls make is longer than what came in: it says more and counts as full. Else prove '..UptoSaid'. A law counts once. -/
mutual
def uptoBulk {H : Type} : DataW H → Nat
  | .lit (.string bytes) => bytes.length + 1
  | .lit _ => 1
  | .nil => 1
  | .ptr d => uptoBulk d + 1
  | .slice elems spare => uptoBulkAll elems + uptoBulkAll spare + 1
  | .agg parts => uptoBulkAll parts + 1
  | .iface _ d => uptoBulk d + 1
  | .map entries => uptoBulkEntries entries + 1
  | .held _ => 1
def uptoBulkAll {H : Type} : List (DataW H) → Nat
  | [] => 0
  | d :: r => uptoBulk d + uptoBulkAll r
def uptoBulkEntries {H : Type} : List (Lit × DataW H) → Nat
  | [] => 0
  | x :: r => uptoBulkEntry x + uptoBulkEntries r
def uptoBulkEntry {H : Type} : Lit × DataW H → Nat
  | (.string bytes, d) => bytes.length + uptoBulk d + 1
  | (_, d) => uptoBulk d + 1
 end
def uptoSmall : (H : Type) → List (DataW H) → Bool := fun _ ds => decide (uptoBulkAll ds ≤ 1048576)
def OpenSpec.upto (s : _root_.Go.ChangeSpec) : _root_.Go.OpenSpec := { _root_.Go.OpenSpec.ofChange s with cond := some uptoSmall }

/-- 'laws.FnExactNearestCodeword', WHERE WHAT IT READS IS OF BULK AT MOST 1048576: true; the input reads as it did. -/
def fnExactNearestCodewordUptoRow : OpenClaim := { program := "ytmojhlpphinobaa", sum := "293b5c76d9ba516d8c0c30a82eadc78e227b85acc123ecf33cbb5a6e204fc631", func := "loop.example/g01203/laws.FnExactNearestCodeword", spec := "fnExactNearestCodeword", unfollowed := true, recurses := true, apart := false, narrowed := true }
def FnExactNearestCodewordUptoSaid : Prop := fnExactNearestCodewordUptoRow.holds Try.pinned (OpenSpec.upto fnExactNearestCodewordSpec)

/-- 'laws.FnMeans', WHERE WHAT IT READS IS OF BULK AT MOST 1048576: true; the input reads as it did. -/
def fnMeansUptoRow : OpenClaim := { program := "ytmojhlpphinobaa", sum := "293b5c76d9ba516d8c0c30a82eadc78e227b85acc123ecf33cbb5a6e204fc631", func := "loop.example/g01203/laws.FnMeans", spec := "fnMeans", unfollowed := true, recurses := true, apart := false, narrowed := true }
def FnMeansUptoSaid : Prop := fnMeansUptoRow.holds Try.pinned (OpenSpec.upto fnMeansSpec)

/-- 'laws.FnDeckParting', WHERE WHAT IT READS IS OF BULK AT MOST 1048576: true; the input reads as it did. -/
def fnDeckPartingUptoRow : OpenClaim := { program := "ytmojhlpphinobaa", sum := "293b5c76d9ba516d8c0c30a82eadc78e227b85acc123ecf33cbb5a6e204fc631", func := "loop.example/g01203/laws.FnDeckParting", spec := "fnDeckParting", unfollowed := true, recurses := true, apart := false, narrowed := true }
def FnDeckPartingUptoSaid : Prop := fnDeckPartingUptoRow.holds Try.pinned (OpenSpec.upto fnDeckPartingSpec)

/-- 'laws.FnExactFirstRight', WHERE WHAT IT READS IS OF BULK AT MOST 1048576: true; the input reads as it did. -/
def fnExactFirstRightUptoRow : OpenClaim := { program := "ytmojhlpphinobaa", sum := "293b5c76d9ba516d8c0c30a82eadc78e227b85acc123ecf33cbb5a6e204fc631", func := "loop.example/g01203/laws.FnExactFirstRight", spec := "fnExactFirstRight", unfollowed := true, recurses := true, apart := false, narrowed := true }
def FnExactFirstRightUptoSaid : Prop := fnExactFirstRightUptoRow.holds Try.pinned (OpenSpec.upto fnExactFirstRightSpec)

/-- 'laws.FnExactMakeClaim', WHERE WHAT IT READS IS OF BULK AT MOST 1048576: true; the input reads as it did. -/
def fnExactMakeClaimUptoRow : OpenClaim := { program := "ytmojhlpphinobaa", sum := "293b5c76d9ba516d8c0c30a82eadc78e227b85acc123ecf33cbb5a6e204fc631", func := "loop.example/g01203/laws.FnExactMakeClaim", spec := "fnExactMakeClaim", unfollowed := true, recurses := true, apart := false, narrowed := true }
def FnExactMakeClaimUptoSaid : Prop := fnExactMakeClaimUptoRow.holds Try.pinned (OpenSpec.upto fnExactMakeClaimSpec)

/-- 'laws.FnExactShadowHand', WHERE WHAT IT READS IS OF BULK AT MOST 1048576: true; the input reads as it did. -/
def fnExactShadowHandUptoRow : OpenClaim := { program := "ytmojhlpphinobaa", sum := "293b5c76d9ba516d8c0c30a82eadc78e227b85acc123ecf33cbb5a6e204fc631", func := "loop.example/g01203/laws.FnExactShadowHand", spec := "fnExactShadowHand", unfollowed := true, recurses := true, apart := false, narrowed := true }
def FnExactShadowHandUptoSaid : Prop := fnExactShadowHandUptoRow.holds Try.pinned (OpenSpec.upto fnExactShadowHandSpec)

/-- 'laws.FnChances', WHERE WHAT IT READS IS OF BULK AT MOST 1048576: true; the input reads as it did. -/
def fnChancesUptoRow : OpenClaim := { program := "ytmojhlpphinobaa", sum := "293b5c76d9ba516d8c0c30a82eadc78e227b85acc123ecf33cbb5a6e204fc631", func := "loop.example/g01203/laws.FnChances", spec := "fnChances", unfollowed := true, recurses := true, apart := false, narrowed := true }
def FnChancesUptoSaid : Prop := fnChancesUptoRow.holds Try.pinned (OpenSpec.upto fnChancesSpec)

end Rows
end Go.Proofs.Ytmojhlpphinobaa

/-
  No cell of these rows narrows 'for every input' (looked for: loops, veiled, ifaces, maps, wideKeys, modest, calm, conditions, laid).
  DERIVED. THE GIVEN ROWS OF THIS SEAT. 7 by the template 'for every input the law returns true; each argument reads behind the call as it read before'; 0 by the template 'total and deterministic' (their statements: YtleaogcnndhdgaaTotals.lean).
  GIVEN WITH THE SEED: the statements are not yours to turn. If you find one false, say at which input.
  Laid BY PROGRAM, IN A SANDBOX (cutbox-rows.mjs): the forced cells as the released guide's own fill.sh prints them over the translation a6e91ff6a90d5cbd… (all of the seat's roots in one cut). By AI agents, Wed Nov 11 2026. No macro, syntax, notation, axiom, sorry.
-/
import Derived.Test.YtleaogcnndhdgaaChecked
import GoSem.Claim
import GoSem.ClaimJoined
import GoSem.ClaimMapViews
import Derived.JoinedTies
import Derived.KernelRfl
namespace Go.Proofs.Ytleaogcnndhdgaa
/- THE CELL 'sum', in the pinned program and in every row, IS THE sha256 OF THE DUMP (.gsa) THAT YtleaogcnndhdgaaProg.lean LOADS. Nothing in Lean hashes anything: it is a label: what it is worth is what the hold of that sum in a sandbox is worth. -/
noncomputable def Try.pinned : Pinned := { name := "ytleaogcnndhdgaa", sum := "a6e91ff6a90d5cbdfdeddbb299aa6d79bdcfd70a33aad7091f6185b654765739", checked := Try.checked }
namespace Rows
def none {H : Type} : Left H := { results := [], args := [] }

/-- 'laws.FnExactCodeDistance': WHATEVER THE INPUT: true; the input reads as it did. -/
def fnExactCodeDistanceSpec : ChangeSpec := { name := "fnExactCodeDistance", fn := fun _ => fun
  | [d1, d2] => { results := [.lit (.bool true)], args := [d1, d2] }
  | _ => none }
def fnExactCodeDistanceRow : OpenClaim := { program := "ytleaogcnndhdgaa", sum := "a6e91ff6a90d5cbdfdeddbb299aa6d79bdcfd70a33aad7091f6185b654765739", func := "loop.example/g01203/laws.FnExactCodeDistance", spec := "fnExactCodeDistance", unfollowed := true, recurses := true, apart := false }
def FnExactCodeDistanceSaid : Prop := fnExactCodeDistanceRow.holds Try.pinned (OpenSpec.ofChange fnExactCodeDistanceSpec)

/-- ITS FALSE NEIGHBOUR: 'it returns false'. Refute it at one input. -/
def fnExactCodeDistanceWrong : ChangeSpec := { name := "fnExactCodeDistance", fn := fun _ => fun
  | [d1, d2] => { results := [.lit (.bool false)], args := [d1, d2] }
  | _ => none }
def FnExactCodeDistanceWrongFalsely : Prop := fnExactCodeDistanceRow.holds Try.pinned (OpenSpec.ofChange fnExactCodeDistanceWrong)

/-- 'laws.FnExactIsTable': WHATEVER THE INPUT: true; the input reads as it did. -/
def fnExactIsTableSpec : ChangeSpec := { name := "fnExactIsTable", fn := fun _ => fun
  | [d] => { results := [.lit (.bool true)], args := [d] }
  | _ => none }
def fnExactIsTableRow : OpenClaim := { program := "ytleaogcnndhdgaa", sum := "a6e91ff6a90d5cbdfdeddbb299aa6d79bdcfd70a33aad7091f6185b654765739", func := "loop.example/g01203/laws.FnExactIsTable", spec := "fnExactIsTable", unfollowed := true, recurses := true, apart := false }
def FnExactIsTableSaid : Prop := fnExactIsTableRow.holds Try.pinned (OpenSpec.ofChange fnExactIsTableSpec)

/-- ITS FALSE NEIGHBOUR: 'it returns false'. Refute it at one input. -/
def fnExactIsTableWrong : ChangeSpec := { name := "fnExactIsTable", fn := fun _ => fun
  | [d] => { results := [.lit (.bool false)], args := [d] }
  | _ => none }
def FnExactIsTableWrongFalsely : Prop := fnExactIsTableRow.holds Try.pinned (OpenSpec.ofChange fnExactIsTableWrong)

/-- 'laws.FnExactCountBehind': WHATEVER THE INPUT: true; the input reads as it did. -/
def fnExactCountBehindSpec : ChangeSpec := { name := "fnExactCountBehind", fn := fun _ => fun
  | [d1, d2, d3] => { results := [.lit (.bool true)], args := [d1, d2, d3] }
  | _ => none }
def fnExactCountBehindRow : OpenClaim := { program := "ytleaogcnndhdgaa", sum := "a6e91ff6a90d5cbdfdeddbb299aa6d79bdcfd70a33aad7091f6185b654765739", func := "loop.example/g01203/laws.FnExactCountBehind", spec := "fnExactCountBehind", unfollowed := true, recurses := true, apart := false }
def FnExactCountBehindSaid : Prop := fnExactCountBehindRow.holds Try.pinned (OpenSpec.ofChange fnExactCountBehindSpec)

/-- ITS FALSE NEIGHBOUR: 'it returns false'. Refute it at one input. -/
def fnExactCountBehindWrong : ChangeSpec := { name := "fnExactCountBehind", fn := fun _ => fun
  | [d1, d2, d3] => { results := [.lit (.bool false)], args := [d1, d2, d3] }
  | _ => none }
def FnExactCountBehindWrongFalsely : Prop := fnExactCountBehindRow.holds Try.pinned (OpenSpec.ofChange fnExactCountBehindWrong)

/-- 'laws.FnExactIsValidRecord': WHATEVER THE INPUT: true; the input reads as it did. -/
def fnExactIsValidRecordSpec : ChangeSpec := { name := "fnExactIsValidRecord", fn := fun _ => fun
  | [d] => { results := [.lit (.bool true)], args := [d] }
  | _ => none }
def fnExactIsValidRecordRow : OpenClaim := { program := "ytleaogcnndhdgaa", sum := "a6e91ff6a90d5cbdfdeddbb299aa6d79bdcfd70a33aad7091f6185b654765739", func := "loop.example/g01203/laws.FnExactIsValidRecord", spec := "fnExactIsValidRecord", inPlace := ["internal/bytealg.IndexByteString", "internal/bytealg.IndexString"], named := ["internal/bytealg.MaxLen"], apart := false }
def FnExactIsValidRecordSaid : Prop := fnExactIsValidRecordRow.holds Try.pinned (OpenSpec.ofChange fnExactIsValidRecordSpec)

/-- ITS FALSE NEIGHBOUR: 'it returns false'. Refute it at one input. -/
def fnExactIsValidRecordWrong : ChangeSpec := { name := "fnExactIsValidRecord", fn := fun _ => fun
  | [d] => { results := [.lit (.bool false)], args := [d] }
  | _ => none }
def FnExactIsValidRecordWrongFalsely : Prop := fnExactIsValidRecordRow.holds Try.pinned (OpenSpec.ofChange fnExactIsValidRecordWrong)

/-- 'laws.FnExactHiddenCard': WHATEVER THE INPUT: true; the input reads as it did. -/
def fnExactHiddenCardSpec : ChangeSpec := { name := "fnExactHiddenCard", fn := fun _ => fun
  | [d1, d2] => { results := [.lit (.bool true)], args := [d1, d2] }
  | _ => none }
def fnExactHiddenCardRow : OpenClaim := { program := "ytleaogcnndhdgaa", sum := "a6e91ff6a90d5cbdfdeddbb299aa6d79bdcfd70a33aad7091f6185b654765739", func := "loop.example/g01203/laws.FnExactHiddenCard", spec := "fnExactHiddenCard", unfollowed := true, recurses := true, apart := false }
def FnExactHiddenCardSaid : Prop := fnExactHiddenCardRow.holds Try.pinned (OpenSpec.ofChange fnExactHiddenCardSpec)

/-- ITS FALSE NEIGHBOUR: 'it returns false'. Refute it at one input. -/
def fnExactHiddenCardWrong : ChangeSpec := { name := "fnExactHiddenCard", fn := fun _ => fun
  | [d1, d2] => { results := [.lit (.bool false)], args := [d1, d2] }
  | _ => none }
def FnExactHiddenCardWrongFalsely : Prop := fnExactHiddenCardRow.holds Try.pinned (OpenSpec.ofChange fnExactHiddenCardWrong)

/-- 'laws.FnExactNewTable': WHATEVER THE INPUT: true; the input reads as it did. -/
def fnExactNewTableSpec : ChangeSpec := { name := "fnExactNewTable", fn := fun _ => fun
  | [d] => { results := [.lit (.bool true)], args := [d] }
  | _ => none }
def fnExactNewTableRow : OpenClaim := { program := "ytleaogcnndhdgaa", sum := "a6e91ff6a90d5cbdfdeddbb299aa6d79bdcfd70a33aad7091f6185b654765739", func := "loop.example/g01203/laws.FnExactNewTable", spec := "fnExactNewTable", unfollowed := true, recurses := true, apart := false }
def FnExactNewTableSaid : Prop := fnExactNewTableRow.holds Try.pinned (OpenSpec.ofChange fnExactNewTableSpec)

/-- ITS FALSE NEIGHBOUR: 'it returns false'. Refute it at one input. -/
def fnExactNewTableWrong : ChangeSpec := { name := "fnExactNewTable", fn := fun _ => fun
  | [d] => { results := [.lit (.bool false)], args := [d] }
  | _ => none }
def FnExactNewTableWrongFalsely : Prop := fnExactNewTableRow.holds Try.pinned (OpenSpec.ofChange fnExactNewTableWrong)

/-- 'laws.FnExactShadowLines': WHATEVER THE INPUT: true; the input reads as it did. -/
def fnExactShadowLinesSpec : ChangeSpec := { name := "fnExactShadowLines", fn := fun _ => fun
  | [d1, d2] => { results := [.lit (.bool true)], args := [d1, d2] }
  | _ => none }
def fnExactShadowLinesRow : OpenClaim := { program := "ytleaogcnndhdgaa", sum := "a6e91ff6a90d5cbdfdeddbb299aa6d79bdcfd70a33aad7091f6185b654765739", func := "loop.example/g01203/laws.FnExactShadowLines", spec := "fnExactShadowLines", unfollowed := true, recurses := true, apart := false }
def FnExactShadowLinesSaid : Prop := fnExactShadowLinesRow.holds Try.pinned (OpenSpec.ofChange fnExactShadowLinesSpec)

/-- ITS FALSE NEIGHBOUR: 'it returns false'. Refute it at one input. -/
def fnExactShadowLinesWrong : ChangeSpec := { name := "fnExactShadowLines", fn := fun _ => fun
  | [d1, d2] => { results := [.lit (.bool false)], args := [d1, d2] }
  | _ => none }
def FnExactShadowLinesWrongFalsely : Prop := fnExactShadowLinesRow.holds Try.pinned (OpenSpec.ofChange fnExactShadowLinesWrong)

/- THE SECOND FORM. 'bulk': how many values and letters a reading holds, each counted each time it is reached (what is shared counts as often as it is met; a slice's spare places count too). A statement '..UptoSaid' is the law's where the arguments, and the package variables that the reading takes, are together of bulk at most 1048576: NARROWER than '..Said'. Prove '..Said' where nothing that the law and all that it calls make is longer than what came in: it says more and counts as full. Else prove '..UptoSaid'. A law counts once. -/
mutual
def uptoBulk {H : Type} : DataW H → Nat
  | .lit (.string bytes) => bytes.length + 1
  | .lit _ => 1
  | .nil => 1
  | .ptr d => uptoBulk d + 1
  | .slice elems spare => uptoBulkAll elems + uptoBulkAll spare + 1
  | .agg parts => uptoBulkAll parts + 1
  | .iface _ d => uptoBulk d + 1
  | .map entries => uptoBulkEntries entries + 1
  | .held _ => 1
def uptoBulkAll {H : Type} : List (DataW H) → Nat
  | [] => 0
  | d :: r => uptoBulk d + uptoBulkAll r
def uptoBulkEntries {H : Type} : List (Lit × DataW H) → Nat
  | [] => 0
  | x :: r => uptoBulkEntry x + uptoBulkEntries r
def uptoBulkEntry {H : Type} : Lit × DataW H → Nat
  | (.string bytes, d) => bytes.length + uptoBulk d + 1
  | (_, d) => uptoBulk d + 1
 end
def uptoSmall : (H : Type) → List (DataW H) → Bool := fun _ ds => decide (uptoBulkAll ds ≤ 1048576)
def OpenSpec.upto (s : _root_.Go.ChangeSpec) : _root_.Go.OpenSpec := { _root_.Go.OpenSpec.ofChange s with cond := some uptoSmall }

/-- 'laws.FnExactCodeDistance', WHERE WHAT IT READS IS OF BULK AT MOST 1048576: true; the input reads as it did. -/
def fnExactCodeDistanceUptoRow : OpenClaim := { program := "ytleaogcnndhdgaa", sum := "a6e91ff6a90d5cbdfdeddbb299aa6d79bdcfd70a33aad7091f6185b654765739", func := "loop.example/g01203/laws.FnExactCodeDistance", spec := "fnExactCodeDistance", unfollowed := true, recurses := true, apart := false, narrowed := true }
def FnExactCodeDistanceUptoSaid : Prop := fnExactCodeDistanceUptoRow.holds Try.pinned (OpenSpec.upto fnExactCodeDistanceSpec)

/-- 'laws.FnExactIsTable', WHERE WHAT IT READS IS OF BULK AT MOST 1048576: true; the input reads as it did. -/
def fnExactIsTableUptoRow : OpenClaim := { program := "ytleaogcnndhdgaa", sum := "a6e91ff6a90d5cbdfdeddbb299aa6d79bdcfd70a33aad7091f6185b654765739", func := "loop.example/g01203/laws.FnExactIsTable", spec := "fnExactIsTable", unfollowed := true, recurses := true, apart := false, narrowed := true }
def FnExactIsTableUptoSaid : Prop := fnExactIsTableUptoRow.holds Try.pinned (OpenSpec.upto fnExactIsTableSpec)

/-- 'laws.FnExactCountBehind', WHERE WHAT IT READS IS OF BULK AT MOST 1048576: true; the input reads as it did. -/
def fnExactCountBehindUptoRow : OpenClaim := { program := "ytleaogcnndhdgaa", sum := "a6e91ff6a90d5cbdfdeddbb299aa6d79bdcfd70a33aad7091f6185b654765739", func := "loop.example/g01203/laws.FnExactCountBehind", spec := "fnExactCountBehind", unfollowed := true, recurses := true, apart := false, narrowed := true }
def FnExactCountBehindUptoSaid : Prop := fnExactCountBehindUptoRow.holds Try.pinned (OpenSpec.upto fnExactCountBehindSpec)

/-- 'laws.FnExactIsValidRecord', WHERE WHAT IT READS IS OF BULK AT MOST 1048576: true; the input reads as it did. -/
def fnExactIsValidRecordUptoRow : OpenClaim := { program := "ytleaogcnndhdgaa", sum := "a6e91ff6a90d5cbdfdeddbb299aa6d79bdcfd70a33aad7091f6185b654765739", func := "loop.example/g01203/laws.FnExactIsValidRecord", spec := "fnExactIsValidRecord", inPlace := ["internal/bytealg.IndexByteString", "internal/bytealg.IndexString"], named := ["internal/bytealg.MaxLen"], apart := false, narrowed := true }
def FnExactIsValidRecordUptoSaid : Prop := fnExactIsValidRecordUptoRow.holds Try.pinned (OpenSpec.upto fnExactIsValidRecordSpec)

/-- 'laws.FnExactHiddenCard', WHERE WHAT IT READS IS OF BULK AT MOST 1048576: true; the input reads as it did. -/
def fnExactHiddenCardUptoRow : OpenClaim := { program := "ytleaogcnndhdgaa", sum := "a6e91ff6a90d5cbdfdeddbb299aa6d79bdcfd70a33aad7091f6185b654765739", func := "loop.example/g01203/laws.FnExactHiddenCard", spec := "fnExactHiddenCard", unfollowed := true, recurses := true, apart := false, narrowed := true }
def FnExactHiddenCardUptoSaid : Prop := fnExactHiddenCardUptoRow.holds Try.pinned (OpenSpec.upto fnExactHiddenCardSpec)

/-- 'laws.FnExactNewTable', WHERE WHAT IT READS IS OF BULK AT MOST 1048576: true; the input reads as it did. -/
def fnExactNewTableUptoRow : OpenClaim := { program := "ytleaogcnndhdgaa", sum := "a6e91ff6a90d5cbdfdeddbb299aa6d79bdcfd70a33aad7091f6185b654765739", func := "loop.example/g01203/laws.FnExactNewTable", spec := "fnExactNewTable", unfollowed := true, recurses := true, apart := false, narrowed := true }
def FnExactNewTableUptoSaid : Prop := fnExactNewTableUptoRow.holds Try.pinned (OpenSpec.upto fnExactNewTableSpec)

/-- 'laws.FnExactShadowLines', WHERE WHAT IT READS IS OF BULK AT MOST 1048576: true; the input reads as it did. -/
def fnExactShadowLinesUptoRow : OpenClaim := { program := "ytleaogcnndhdgaa", sum := "a6e91ff6a90d5cbdfdeddbb299aa6d79bdcfd70a33aad7091f6185b654765739", func := "loop.example/g01203/laws.FnExactShadowLines", spec := "fnExactShadowLines", unfollowed := true, recurses := true, apart := false, narrowed := true }
def FnExactShadowLinesUptoSaid : Prop := fnExactShadowLinesUptoRow.holds Try.pinned (OpenSpec.upto fnExactShadowLinesSpec)

end Rows
end Go.Proofs.Ytleaogcnndhdgaa

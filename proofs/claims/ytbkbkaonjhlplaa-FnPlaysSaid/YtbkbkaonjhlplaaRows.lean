/-
  No cell of these rows narrows 'for every input' (looked for: loops, veiled, ifaces, maps, wideKeys, modest, calm, conditions, laid).
  DERIVED. THE GIVEN ROWS OF THIS SEAT. 7 by the template 'for every input the law returns true; each argument reads behind the call as it read before'; 0 by the template 'total and deterministic' (their statements: YtbkbkaonjhlplaaTotals.lean).
  GIVEN WITH THE SEED: the statements are not yours to turn. If you find one false, say at which input.
  Laid BY PROGRAM, IN A SANDBOX (cutbox-rows.mjs): the forced cells as the released guide's own fill.sh prints them over the translation a069788aca00b7f9… (all of the seat's roots in one cut). By AI agents, Wed Nov 11 2026. No macro, syntax, notation, axiom, sorry.
-/
import Derived.Test.YtbkbkaonjhlplaaChecked
import GoSem.Claim
import GoSem.ClaimJoined
import GoSem.ClaimMapViews
import Derived.JoinedTies
import Derived.KernelRfl
namespace Go.Proofs.Ytbkbkaonjhlplaa
/- THE CELL 'sum', in the pinned program and in every row, IS THE sha256 OF THE DUMP (.gsa) THAT YtbkbkaonjhlplaaProg.lean LOADS. Nothing in Lean hashes anything: it is a label: what it is worth is what the hold of that sum in a sandbox is worth. -/
noncomputable def Try.pinned : Pinned := { name := "ytbkbkaonjhlplaa", sum := "a069788aca00b7f9698dc280448f814ae580202640966115249546d2a6848a29", checked := Try.checked }
namespace Rows
def none {H : Type} : Left H := { results := [], args := [] }

/-- 'laws.FnCodes': WHATEVER THE INPUT: true; the input reads as it did. -/
def fnCodesSpec : ChangeSpec := { name := "fnCodes", fn := fun _ => fun
  | [d] => { results := [.lit (.bool true)], args := [d] }
  | _ => none }
def fnCodesRow : OpenClaim := { program := "ytbkbkaonjhlplaa", sum := "a069788aca00b7f9698dc280448f814ae580202640966115249546d2a6848a29", func := "loop.example/g01203/laws.FnCodes", spec := "fnCodes", unfollowed := true, recurses := true, apart := false }
def FnCodesSaid : Prop := fnCodesRow.holds Try.pinned (OpenSpec.ofChange fnCodesSpec)

/-- ITS FALSE NEIGHBOUR: 'it returns false'. Refute it at one input. -/
def fnCodesWrong : ChangeSpec := { name := "fnCodes", fn := fun _ => fun
  | [d] => { results := [.lit (.bool false)], args := [d] }
  | _ => none }
def FnCodesWrongFalsely : Prop := fnCodesRow.holds Try.pinned (OpenSpec.ofChange fnCodesWrong)

/-- 'laws.FnAnchors': WHATEVER THE INPUT: true; the input reads as it did. -/
def fnAnchorsSpec : ChangeSpec := { name := "fnAnchors", fn := fun _ => fun
  | [d] => { results := [.lit (.bool true)], args := [d] }
  | _ => none }
def fnAnchorsRow : OpenClaim := { program := "ytbkbkaonjhlplaa", sum := "a069788aca00b7f9698dc280448f814ae580202640966115249546d2a6848a29", func := "loop.example/g01203/laws.FnAnchors", spec := "fnAnchors", unfollowed := true, recurses := true, apart := false }
def FnAnchorsSaid : Prop := fnAnchorsRow.holds Try.pinned (OpenSpec.ofChange fnAnchorsSpec)

/-- ITS FALSE NEIGHBOUR: 'it returns false'. Refute it at one input. -/
def fnAnchorsWrong : ChangeSpec := { name := "fnAnchors", fn := fun _ => fun
  | [d] => { results := [.lit (.bool false)], args := [d] }
  | _ => none }
def FnAnchorsWrongFalsely : Prop := fnAnchorsRow.holds Try.pinned (OpenSpec.ofChange fnAnchorsWrong)

/-- 'laws.FnSpaces': WHATEVER THE INPUT: true; the input reads as it did. -/
def fnSpacesSpec : ChangeSpec := { name := "fnSpaces", fn := fun _ => fun
  | [d] => { results := [.lit (.bool true)], args := [d] }
  | _ => none }
def fnSpacesRow : OpenClaim := { program := "ytbkbkaonjhlplaa", sum := "a069788aca00b7f9698dc280448f814ae580202640966115249546d2a6848a29", func := "loop.example/g01203/laws.FnSpaces", spec := "fnSpaces", unfollowed := true, recurses := true, apart := false }
def FnSpacesSaid : Prop := fnSpacesRow.holds Try.pinned (OpenSpec.ofChange fnSpacesSpec)

/-- ITS FALSE NEIGHBOUR: 'it returns false'. Refute it at one input. -/
def fnSpacesWrong : ChangeSpec := { name := "fnSpaces", fn := fun _ => fun
  | [d] => { results := [.lit (.bool false)], args := [d] }
  | _ => none }
def FnSpacesWrongFalsely : Prop := fnSpacesRow.holds Try.pinned (OpenSpec.ofChange fnSpacesWrong)

/-- 'laws.FnSpans': WHATEVER THE INPUT: true; the input reads as it did. -/
def fnSpansSpec : ChangeSpec := { name := "fnSpans", fn := fun _ => fun
  | [d] => { results := [.lit (.bool true)], args := [d] }
  | _ => none }
def fnSpansRow : OpenClaim := { program := "ytbkbkaonjhlplaa", sum := "a069788aca00b7f9698dc280448f814ae580202640966115249546d2a6848a29", func := "loop.example/g01203/laws.FnSpans", spec := "fnSpans", unfollowed := true, recurses := true, apart := false }
def FnSpansSaid : Prop := fnSpansRow.holds Try.pinned (OpenSpec.ofChange fnSpansSpec)

/-- ITS FALSE NEIGHBOUR: 'it returns false'. Refute it at one input. -/
def fnSpansWrong : ChangeSpec := { name := "fnSpans", fn := fun _ => fun
  | [d] => { results := [.lit (.bool false)], args := [d] }
  | _ => none }
def FnSpansWrongFalsely : Prop := fnSpansRow.holds Try.pinned (OpenSpec.ofChange fnSpansWrong)

/-- 'laws.FnPlays': WHATEVER THE INPUT: true; the input reads as it did. -/
def fnPlaysSpec : ChangeSpec := { name := "fnPlays", fn := fun _ => fun
  | [d] => { results := [.lit (.bool true)], args := [d] }
  | _ => none }
def fnPlaysRow : OpenClaim := { program := "ytbkbkaonjhlplaa", sum := "a069788aca00b7f9698dc280448f814ae580202640966115249546d2a6848a29", func := "loop.example/g01203/laws.FnPlays", spec := "fnPlays", unfollowed := true, recurses := true, apart := false }
def FnPlaysSaid : Prop := fnPlaysRow.holds Try.pinned (OpenSpec.ofChange fnPlaysSpec)

/-- ITS FALSE NEIGHBOUR: 'it returns false'. Refute it at one input. -/
def fnPlaysWrong : ChangeSpec := { name := "fnPlays", fn := fun _ => fun
  | [d] => { results := [.lit (.bool false)], args := [d] }
  | _ => none }
def FnPlaysWrongFalsely : Prop := fnPlaysRow.holds Try.pinned (OpenSpec.ofChange fnPlaysWrong)

/-- 'laws.FnCaps': WHATEVER THE INPUT: true; the input reads as it did. -/
def fnCapsSpec : ChangeSpec := { name := "fnCaps", fn := fun _ => fun
  | [d] => { results := [.lit (.bool true)], args := [d] }
  | _ => none }
def fnCapsRow : OpenClaim := { program := "ytbkbkaonjhlplaa", sum := "a069788aca00b7f9698dc280448f814ae580202640966115249546d2a6848a29", func := "loop.example/g01203/laws.FnCaps", spec := "fnCaps", unfollowed := true, recurses := true, apart := false }
def FnCapsSaid : Prop := fnCapsRow.holds Try.pinned (OpenSpec.ofChange fnCapsSpec)

/-- ITS FALSE NEIGHBOUR: 'it returns false'. Refute it at one input. -/
def fnCapsWrong : ChangeSpec := { name := "fnCaps", fn := fun _ => fun
  | [d] => { results := [.lit (.bool false)], args := [d] }
  | _ => none }
def FnCapsWrongFalsely : Prop := fnCapsRow.holds Try.pinned (OpenSpec.ofChange fnCapsWrong)

/-- 'laws.FnQuads': WHATEVER THE INPUT: true; the input reads as it did. -/
def fnQuadsSpec : ChangeSpec := { name := "fnQuads", fn := fun _ => fun
  | [d] => { results := [.lit (.bool true)], args := [d] }
  | _ => none }
def fnQuadsRow : OpenClaim := { program := "ytbkbkaonjhlplaa", sum := "a069788aca00b7f9698dc280448f814ae580202640966115249546d2a6848a29", func := "loop.example/g01203/laws.FnQuads", spec := "fnQuads", unfollowed := true, recurses := true, apart := false }
def FnQuadsSaid : Prop := fnQuadsRow.holds Try.pinned (OpenSpec.ofChange fnQuadsSpec)

/-- ITS FALSE NEIGHBOUR: 'it returns false'. Refute it at one input. -/
def fnQuadsWrong : ChangeSpec := { name := "fnQuads", fn := fun _ => fun
  | [d] => { results := [.lit (.bool false)], args := [d] }
  | _ => none }
def FnQuadsWrongFalsely : Prop := fnQuadsRow.holds Try.pinned (OpenSpec.ofChange fnQuadsWrong)

/- THE SECOND FORM. 'bulk': how many values and letters a reading holds, each counted each time it is reached (what is shared counts as often as it is met; a slice's spare places count too). A statement '..UptoSaid' is the law's where the arguments, and the package variables that the reading takes, are together of bulk at most 1048576: NARROWER than '..Said'. Prove '..Said' where nothing that the law and all that it calls make is longer than what came in: it says more and counts as full. Else prove '..UptoSaid'. A law counts once. -/
mutual
def uptoBulk {H : Type} : DataW H → Nat
  | .lit (.string bytes) => bytes.length + 1
  | .lit _ => 1
  | .nil => 1
  | .ptr d => uptoBulk d + 1
  | .slice elems spare => uptoBulkAll elems + uptoBulkAll spare + 1
  | .agg parts => uptoBulkAll parts + 1
  | .iface _ d => uptoBulk d + 1
  | .map entries => uptoBulkEntries entries + 1
  | .held _ => 1
def uptoBulkAll {H : Type} : List (DataW H) → Nat
  | [] => 0
  | d :: r => uptoBulk d + uptoBulkAll r
def uptoBulkEntries {H : Type} : List (Lit × DataW H) → Nat
  | [] => 0
  | x :: r => uptoBulkEntry x + uptoBulkEntries r
def uptoBulkEntry {H : Type} : Lit × DataW H → Nat
  | (.string bytes, d) => bytes.length + uptoBulk d + 1
  | (_, d) => uptoBulk d + 1
 end
def uptoSmall : (H : Type) → List (DataW H) → Bool := fun _ ds => decide (uptoBulkAll ds ≤ 1048576)
def OpenSpec.upto (s : _root_.Go.ChangeSpec) : _root_.Go.OpenSpec := { _root_.Go.OpenSpec.ofChange s with cond := some uptoSmall }

/-- 'laws.FnCodes', WHERE WHAT IT READS IS OF BULK AT MOST 1048576: true; the input reads as it did. -/
def fnCodesUptoRow : OpenClaim := { program := "ytbkbkaonjhlplaa", sum := "a069788aca00b7f9698dc280448f814ae580202640966115249546d2a6848a29", func := "loop.example/g01203/laws.FnCodes", spec := "fnCodes", unfollowed := true, recurses := true, apart := false, narrowed := true }
def FnCodesUptoSaid : Prop := fnCodesUptoRow.holds Try.pinned (OpenSpec.upto fnCodesSpec)

/-- 'laws.FnAnchors', WHERE WHAT IT READS IS OF BULK AT MOST 1048576: true; the input reads as it did. -/
def fnAnchorsUptoRow : OpenClaim := { program := "ytbkbkaonjhlplaa", sum := "a069788aca00b7f9698dc280448f814ae580202640966115249546d2a6848a29", func := "loop.example/g01203/laws.FnAnchors", spec := "fnAnchors", unfollowed := true, recurses := true, apart := false, narrowed := true }
def FnAnchorsUptoSaid : Prop := fnAnchorsUptoRow.holds Try.pinned (OpenSpec.upto fnAnchorsSpec)

/-- 'laws.FnSpaces', WHERE WHAT IT READS IS OF BULK AT MOST 1048576: true; the input reads as it did. -/
def fnSpacesUptoRow : OpenClaim := { program := "ytbkbkaonjhlplaa", sum := "a069788aca00b7f9698dc280448f814ae580202640966115249546d2a6848a29", func := "loop.example/g01203/laws.FnSpaces", spec := "fnSpaces", unfollowed := true, recurses := true, apart := false, narrowed := true }
def FnSpacesUptoSaid : Prop := fnSpacesUptoRow.holds Try.pinned (OpenSpec.upto fnSpacesSpec)

/-- 'laws.FnSpans', WHERE WHAT IT READS IS OF BULK AT MOST 1048576: true; the input reads as it did. -/
def fnSpansUptoRow : OpenClaim := { program := "ytbkbkaonjhlplaa", sum := "a069788aca00b7f9698dc280448f814ae580202640966115249546d2a6848a29", func := "loop.example/g01203/laws.FnSpans", spec := "fnSpans", unfollowed := true, recurses := true, apart := false, narrowed := true }
def FnSpansUptoSaid : Prop := fnSpansUptoRow.holds Try.pinned (OpenSpec.upto fnSpansSpec)

/-- 'laws.FnPlays', WHERE WHAT IT READS IS OF BULK AT MOST 1048576: true; the input reads as it did. -/
def fnPlaysUptoRow : OpenClaim := { program := "ytbkbkaonjhlplaa", sum := "a069788aca00b7f9698dc280448f814ae580202640966115249546d2a6848a29", func := "loop.example/g01203/laws.FnPlays", spec := "fnPlays", unfollowed := true, recurses := true, apart := false, narrowed := true }
def FnPlaysUptoSaid : Prop := fnPlaysUptoRow.holds Try.pinned (OpenSpec.upto fnPlaysSpec)

/-- 'laws.FnCaps', WHERE WHAT IT READS IS OF BULK AT MOST 1048576: true; the input reads as it did. -/
def fnCapsUptoRow : OpenClaim := { program := "ytbkbkaonjhlplaa", sum := "a069788aca00b7f9698dc280448f814ae580202640966115249546d2a6848a29", func := "loop.example/g01203/laws.FnCaps", spec := "fnCaps", unfollowed := true, recurses := true, apart := false, narrowed := true }
def FnCapsUptoSaid : Prop := fnCapsUptoRow.holds Try.pinned (OpenSpec.upto fnCapsSpec)

/-- 'laws.FnQuads', WHERE WHAT IT READS IS OF BULK AT MOST 1048576: true; the input reads as it did. -/
def fnQuadsUptoRow : OpenClaim := { program := "ytbkbkaonjhlplaa", sum := "a069788aca00b7f9698dc280448f814ae580202640966115249546d2a6848a29", func := "loop.example/g01203/laws.FnQuads", spec := "fnQuads", unfollowed := true, recurses := true, apart := false, narrowed := true }
def FnQuadsUptoSaid : Prop := fnQuadsUptoRow.holds Try.pinned (OpenSpec.upto fnQuadsSpec)

end Rows
end Go.Proofs.Ytbkbkaonjhlplaa

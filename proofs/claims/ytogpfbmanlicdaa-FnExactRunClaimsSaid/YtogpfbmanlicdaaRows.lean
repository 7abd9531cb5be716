/-
  No cell of these rows narrows 'for every input' (looked for: loops, veiled, ifaces, maps, wideKeys, modest, calm, conditions, laid).
  DERIVED. THE GIVEN ROWS OF THIS SEAT. 8 by the template 'for every input the law returns true; each argument reads behind the call as it read before'; 0 by the template 'total and deterministic' (their statements: YtogpfbmanlicdaaTotals.lean).
  GIVEN WITH THE SEED: the statements are not yours to turn. If you find one false, say at which input.
  Laid BY PROGRAM, IN A SANDBOX (cutbox-rows.mjs): the forced cells as the released guide's own fill.sh prints them over the translation c28d2308299d178b… (all of the seat's roots in one cut). By AI agents, Wed Nov 11 2026. No macro, syntax, notation, axiom, sorry.
-/
import Derived.Test.YtogpfbmanlicdaaChecked
import GoSem.Claim
import GoSem.ClaimJoined
import GoSem.ClaimMapViews
import Derived.JoinedTies
import Derived.KernelRfl
namespace Go.Proofs.Ytogpfbmanlicdaa
/- THE CELL 'sum', in the pinned program and in every row, IS THE sha256 OF THE DUMP (.gsa) THAT YtogpfbmanlicdaaProg.lean LOADS. Nothing in Lean hashes anything: it is a label: what it is worth is what the hold of that sum in a sandbox is worth. -/
noncomputable def Try.pinned : Pinned := { name := "ytogpfbmanlicdaa", sum := "c28d2308299d178bdea4536ecef5a3edbde3358868ce0466c5aed6e890b8bb24", checked := Try.checked }
namespace Rows
def none {H : Type} : Left H := { results := [], args := [] }

/-- 'laws.FnExactWorthClaims': WHATEVER THE INPUT: true; the input reads as it did. -/
def fnExactWorthClaimsSpec : ChangeSpec := { name := "fnExactWorthClaims", fn := fun _ => fun
  | [d1, d2, d3] => { results := [.lit (.bool true)], args := [d1, d2, d3] }
  | _ => none }
def fnExactWorthClaimsRow : OpenClaim := { program := "ytogpfbmanlicdaa", sum := "c28d2308299d178bdea4536ecef5a3edbde3358868ce0466c5aed6e890b8bb24", func := "loop.example/g01203/laws.FnExactWorthClaims", spec := "fnExactWorthClaims", unfollowed := true, recurses := true, apart := false }
def FnExactWorthClaimsSaid : Prop := fnExactWorthClaimsRow.holds Try.pinned (OpenSpec.ofChange fnExactWorthClaimsSpec)

/-- ITS FALSE NEIGHBOUR: 'it returns false'. Refute it at one input. -/
def fnExactWorthClaimsWrong : ChangeSpec := { name := "fnExactWorthClaims", fn := fun _ => fun
  | [d1, d2, d3] => { results := [.lit (.bool false)], args := [d1, d2, d3] }
  | _ => none }
def FnExactWorthClaimsWrongFalsely : Prop := fnExactWorthClaimsRow.holds Try.pinned (OpenSpec.ofChange fnExactWorthClaimsWrong)

/-- 'laws.FnGhosts': WHATEVER THE INPUT: true; the input reads as it did. -/
def fnGhostsSpec : ChangeSpec := { name := "fnGhosts", fn := fun _ => fun
  | [d] => { results := [.lit (.bool true)], args := [d] }
  | _ => none }
def fnGhostsRow : OpenClaim := { program := "ytogpfbmanlicdaa", sum := "c28d2308299d178bdea4536ecef5a3edbde3358868ce0466c5aed6e890b8bb24", func := "loop.example/g01203/laws.FnGhosts", spec := "fnGhosts", unfollowed := true, recurses := true, apart := false }
def FnGhostsSaid : Prop := fnGhostsRow.holds Try.pinned (OpenSpec.ofChange fnGhostsSpec)

/-- ITS FALSE NEIGHBOUR: 'it returns false'. Refute it at one input. -/
def fnGhostsWrong : ChangeSpec := { name := "fnGhosts", fn := fun _ => fun
  | [d] => { results := [.lit (.bool false)], args := [d] }
  | _ => none }
def FnGhostsWrongFalsely : Prop := fnGhostsRow.holds Try.pinned (OpenSpec.ofChange fnGhostsWrong)

/-- 'laws.FnExactReadMessage': WHATEVER THE INPUT: true; the input reads as it did. -/
def fnExactReadMessageSpec : ChangeSpec := { name := "fnExactReadMessage", fn := fun _ => fun
  | [d] => { results := [.lit (.bool true)], args := [d] }
  | _ => none }
def fnExactReadMessageRow : OpenClaim := { program := "ytogpfbmanlicdaa", sum := "c28d2308299d178bdea4536ecef5a3edbde3358868ce0466c5aed6e890b8bb24", func := "loop.example/g01203/laws.FnExactReadMessage", spec := "fnExactReadMessage", unfollowed := true, recurses := true, apart := false }
def FnExactReadMessageSaid : Prop := fnExactReadMessageRow.holds Try.pinned (OpenSpec.ofChange fnExactReadMessageSpec)

/-- ITS FALSE NEIGHBOUR: 'it returns false'. Refute it at one input. -/
def fnExactReadMessageWrong : ChangeSpec := { name := "fnExactReadMessage", fn := fun _ => fun
  | [d] => { results := [.lit (.bool false)], args := [d] }
  | _ => none }
def FnExactReadMessageWrongFalsely : Prop := fnExactReadMessageRow.holds Try.pinned (OpenSpec.ofChange fnExactReadMessageWrong)

/-- 'laws.FnExactLeastMask': WHATEVER THE INPUT: true; the input reads as it did. -/
def fnExactLeastMaskSpec : ChangeSpec := { name := "fnExactLeastMask", fn := fun _ => fun
  | [d] => { results := [.lit (.bool true)], args := [d] }
  | _ => none }
def fnExactLeastMaskRow : OpenClaim := { program := "ytogpfbmanlicdaa", sum := "c28d2308299d178bdea4536ecef5a3edbde3358868ce0466c5aed6e890b8bb24", func := "loop.example/g01203/laws.FnExactLeastMask", spec := "fnExactLeastMask", unfollowed := true, recurses := true, apart := false }
def FnExactLeastMaskSaid : Prop := fnExactLeastMaskRow.holds Try.pinned (OpenSpec.ofChange fnExactLeastMaskSpec)

/-- ITS FALSE NEIGHBOUR: 'it returns false'. Refute it at one input. -/
def fnExactLeastMaskWrong : ChangeSpec := { name := "fnExactLeastMask", fn := fun _ => fun
  | [d] => { results := [.lit (.bool false)], args := [d] }
  | _ => none }
def FnExactLeastMaskWrongFalsely : Prop := fnExactLeastMaskRow.holds Try.pinned (OpenSpec.ofChange fnExactLeastMaskWrong)

/-- 'laws.FnRanks': WHATEVER THE INPUT: true; the input reads as it did. -/
def fnRanksSpec : ChangeSpec := { name := "fnRanks", fn := fun _ => fun
  | [d] => { results := [.lit (.bool true)], args := [d] }
  | _ => none }
def fnRanksRow : OpenClaim := { program := "ytogpfbmanlicdaa", sum := "c28d2308299d178bdea4536ecef5a3edbde3358868ce0466c5aed6e890b8bb24", func := "loop.example/g01203/laws.FnRanks", spec := "fnRanks", unfollowed := true, recurses := true, apart := false }
def FnRanksSaid : Prop := fnRanksRow.holds Try.pinned (OpenSpec.ofChange fnRanksSpec)

/-- ITS FALSE NEIGHBOUR: 'it returns false'. Refute it at one input. -/
def fnRanksWrong : ChangeSpec := { name := "fnRanks", fn := fun _ => fun
  | [d] => { results := [.lit (.bool false)], args := [d] }
  | _ => none }
def FnRanksWrongFalsely : Prop := fnRanksRow.holds Try.pinned (OpenSpec.ofChange fnRanksWrong)

/-- 'laws.FnExactRunClaims': WHATEVER THE INPUT: true; the input reads as it did. -/
def fnExactRunClaimsSpec : ChangeSpec := { name := "fnExactRunClaims", fn := fun _ => fun
  | [d1, d2] => { results := [.lit (.bool true)], args := [d1, d2] }
  | _ => none }
def fnExactRunClaimsRow : OpenClaim := { program := "ytogpfbmanlicdaa", sum := "c28d2308299d178bdea4536ecef5a3edbde3358868ce0466c5aed6e890b8bb24", func := "loop.example/g01203/laws.FnExactRunClaims", spec := "fnExactRunClaims", unfollowed := true, recurses := true, apart := false }
def FnExactRunClaimsSaid : Prop := fnExactRunClaimsRow.holds Try.pinned (OpenSpec.ofChange fnExactRunClaimsSpec)

/-- ITS FALSE NEIGHBOUR: 'it returns false'. Refute it at one input. -/
def fnExactRunClaimsWrong : ChangeSpec := { name := "fnExactRunClaims", fn := fun _ => fun
  | [d1, d2] => { results := [.lit (.bool false)], args := [d1, d2] }
  | _ => none }
def FnExactRunClaimsWrongFalsely : Prop := fnExactRunClaimsRow.holds Try.pinned (OpenSpec.ofChange fnExactRunClaimsWrong)

/-- 'laws.FnClaims': WHATEVER THE INPUT: true; the input reads as it did. -/
def fnClaimsSpec : ChangeSpec := { name := "fnClaims", fn := fun _ => fun
  | [d] => { results := [.lit (.bool true)], args := [d] }
  | _ => none }
def fnClaimsRow : OpenClaim := { program := "ytogpfbmanlicdaa", sum := "c28d2308299d178bdea4536ecef5a3edbde3358868ce0466c5aed6e890b8bb24", func := "loop.example/g01203/laws.FnClaims", spec := "fnClaims", unfollowed := true, recurses := true, apart := false }
def FnClaimsSaid : Prop := fnClaimsRow.holds Try.pinned (OpenSpec.ofChange fnClaimsSpec)

/-- ITS FALSE NEIGHBOUR: 'it returns false'. Refute it at one input. -/
def fnClaimsWrong : ChangeSpec := { name := "fnClaims", fn := fun _ => fun
  | [d] => { results := [.lit (.bool false)], args := [d] }
  | _ => none }
def FnClaimsWrongFalsely : Prop := fnClaimsRow.holds Try.pinned (OpenSpec.ofChange fnClaimsWrong)

/-- 'laws.FnMaps': WHATEVER THE INPUT: true; the input reads as it did. -/
def fnMapsSpec : ChangeSpec := { name := "fnMaps", fn := fun _ => fun
  | [d] => { results := [.lit (.bool true)], args := [d] }
  | _ => none }
def fnMapsRow : OpenClaim := { program := "ytogpfbmanlicdaa", sum := "c28d2308299d178bdea4536ecef5a3edbde3358868ce0466c5aed6e890b8bb24", func := "loop.example/g01203/laws.FnMaps", spec := "fnMaps", unfollowed := true, recurses := true, apart := false }
def FnMapsSaid : Prop := fnMapsRow.holds Try.pinned (OpenSpec.ofChange fnMapsSpec)

/-- ITS FALSE NEIGHBOUR: 'it returns false'. Refute it at one input. -/
def fnMapsWrong : ChangeSpec := { name := "fnMaps", fn := fun _ => fun
  | [d] => { results := [.lit (.bool false)], args := [d] }
  | _ => none }
def FnMapsWrongFalsely : Prop := fnMapsRow.holds Try.pinned (OpenSpec.ofChange fnMapsWrong)

/- THE SECOND FORM. 'bulk': how many values and letters a reading holds, each counted each time it is reached (what is shared counts as often as it is met; a slice's spare places count too). A statement '..UptoSaid' is the law's where the arguments, and the package variables that the reading takes, are together of bulk at most 1048576: NARROWER than '..Said'. Prove '..Said' where nothing that the law and all that it calls make is longer than what came in: it says more and counts as full. Else prove '..UptoSaid'. A law counts once. -/
mutual
def uptoBulk {H : Type} : DataW H → Nat
  | .lit (.string bytes) => bytes.length + 1
  | .lit _ => 1
  | .nil => 1
  | .ptr d => uptoBulk d + 1
  | .slice elems spare => uptoBulkAll elems + uptoBulkAll spare + 1
  | .agg parts => uptoBulkAll parts + 1
  | .iface _ d => uptoBulk d + 1
  | .map entries => uptoBulkEntries entries + 1
  | .held _ => 1
def uptoBulkAll {H : Type} : List (DataW H) → Nat
  | [] => 0
  | d :: r => uptoBulk d + uptoBulkAll r
def uptoBulkEntries {H : Type} : List (Lit × DataW H) → Nat
  | [] => 0
  | x :: r => uptoBulkEntry x + uptoBulkEntries r
def uptoBulkEntry {H : Type} : Lit × DataW H → Nat
  | (.string bytes, d) => bytes.length + uptoBulk d + 1
  | (_, d) => uptoBulk d + 1
 end
def uptoSmall : (H : Type) → List (DataW H) → Bool := fun _ ds => decide (uptoBulkAll ds ≤ 1048576)
def OpenSpec.upto (s : _root_.Go.ChangeSpec) : _root_.Go.OpenSpec := { _root_.Go.OpenSpec.ofChange s with cond := some uptoSmall }

/-- 'laws.FnExactWorthClaims', WHERE WHAT IT READS IS OF BULK AT MOST 1048576: true; the input reads as it did. -/
def fnExactWorthClaimsUptoRow : OpenClaim := { program := "ytogpfbmanlicdaa", sum := "c28d2308299d178bdea4536ecef5a3edbde3358868ce0466c5aed6e890b8bb24", func := "loop.example/g01203/laws.FnExactWorthClaims", spec := "fnExactWorthClaims", unfollowed := true, recurses := true, apart := false, narrowed := true }
def FnExactWorthClaimsUptoSaid : Prop := fnExactWorthClaimsUptoRow.holds Try.pinned (OpenSpec.upto fnExactWorthClaimsSpec)

/-- 'laws.FnGhosts', WHERE WHAT IT READS IS OF BULK AT MOST 1048576: true; the input reads as it did. -/
def fnGhostsUptoRow : OpenClaim := { program := "ytogpfbmanlicdaa", sum := "c28d2308299d178bdea4536ecef5a3edbde3358868ce0466c5aed6e890b8bb24", func := "loop.example/g01203/laws.FnGhosts", spec := "fnGhosts", unfollowed := true, recurses := true, apart := false, narrowed := true }
def FnGhostsUptoSaid : Prop := fnGhostsUptoRow.holds Try.pinned (OpenSpec.upto fnGhostsSpec)

/-- 'laws.FnExactReadMessage', WHERE WHAT IT READS IS OF BULK AT MOST 1048576: true; the input reads as it did. -/
def fnExactReadMessageUptoRow : OpenClaim := { program := "ytogpfbmanlicdaa", sum := "c28d2308299d178bdea4536ecef5a3edbde3358868ce0466c5aed6e890b8bb24", func := "loop.example/g01203/laws.FnExactReadMessage", spec := "fnExactReadMessage", unfollowed := true, recurses := true, apart := false, narrowed := true }
def FnExactReadMessageUptoSaid : Prop := fnExactReadMessageUptoRow.holds Try.pinned (OpenSpec.upto fnExactReadMessageSpec)

/-- 'laws.FnExactLeastMask', WHERE WHAT IT READS IS OF BULK AT MOST 1048576: true; the input reads as it did. -/
def fnExactLeastMaskUptoRow : OpenClaim := { program := "ytogpfbmanlicdaa", sum := "c28d2308299d178bdea4536ecef5a3edbde3358868ce0466c5aed6e890b8bb24", func := "loop.example/g01203/laws.FnExactLeastMask", spec := "fnExactLeastMask", unfollowed := true, recurses := true, apart := false, narrowed := true }
def FnExactLeastMaskUptoSaid : Prop := fnExactLeastMaskUptoRow.holds Try.pinned (OpenSpec.upto fnExactLeastMaskSpec)

/-- 'laws.FnRanks', WHERE WHAT IT READS IS OF BULK AT MOST 1048576: true; the input reads as it did. -/
def fnRanksUptoRow : OpenClaim := { program := "ytogpfbmanlicdaa", sum := "c28d2308299d178bdea4536ecef5a3edbde3358868ce0466c5aed6e890b8bb24", func := "loop.example/g01203/laws.FnRanks", spec := "fnRanks", unfollowed := true, recurses := true, apart := false, narrowed := true }
def FnRanksUptoSaid : Prop := fnRanksUptoRow.holds Try.pinned (OpenSpec.upto fnRanksSpec)

/-- 'laws.FnExactRunClaims', WHERE WHAT IT READS IS OF BULK AT MOST 1048576: true; the input reads as it did. -/
def fnExactRunClaimsUptoRow : OpenClaim := { program := "ytogpfbmanlicdaa", sum := "c28d2308299d178bdea4536ecef5a3edbde3358868ce0466c5aed6e890b8bb24", func := "loop.example/g01203/laws.FnExactRunClaims", spec := "fnExactRunClaims", unfollowed := true, recurses := true, apart := false, narrowed := true }
def FnExactRunClaimsUptoSaid : Prop := fnExactRunClaimsUptoRow.holds Try.pinned (OpenSpec.upto fnExactRunClaimsSpec)

/-- 'laws.FnClaims', WHERE WHAT IT READS IS OF BULK AT MOST 1048576: true; the input reads as it did. -/
def fnClaimsUptoRow : OpenClaim := { program := "ytogpfbmanlicdaa", sum := "c28d2308299d178bdea4536ecef5a3edbde3358868ce0466c5aed6e890b8bb24", func := "loop.example/g01203/laws.FnClaims", spec := "fnClaims", unfollowed := true, recurses := true, apart := false, narrowed := true }
def FnClaimsUptoSaid : Prop := fnClaimsUptoRow.holds Try.pinned (OpenSpec.upto fnClaimsSpec)

/-- 'laws.FnMaps', WHERE WHAT IT READS IS OF BULK AT MOST 1048576: true; the input reads as it did. -/
def fnMapsUptoRow : OpenClaim := { program := "ytogpfbmanlicdaa", sum := "c28d2308299d178bdea4536ecef5a3edbde3358868ce0466c5aed6e890b8bb24", func := "loop.example/g01203/laws.FnMaps", spec := "fnMaps", unfollowed := true, recurses := true, apart := false, narrowed := true }
def FnMapsUptoSaid : Prop := fnMapsUptoRow.holds Try.pinned (OpenSpec.upto fnMapsSpec)

end Rows
end Go.Proofs.Ytogpfbmanlicdaa

/-
  No cell of these rows narrows 'for every input' (looked for: loops, veiled, ifaces, maps, wideKeys, modest, calm, conditions, laid).
  DERIVED. THE GIVEN ROWS OF THIS SEAT. 6 by the template 'for every input the law returns true; each argument reads behind the call as it read before'; 0 by the template 'total and deterministic' (their statements: YtdnjeahbnidefaaTotals.lean).
  GIVEN WITH THE SEED: the statements are not yours to turn. If you find one false, say at which input.
  Laid BY PROGRAM, IN A SANDBOX (cutbox-rows.mjs): the forced cells as the released guide's own fill.sh prints them over the translation c0ff7a513d363737… (all of the seat's roots in one cut). By AI agents, Wed Nov 11 2026. No macro, syntax, notation, axiom, sorry.
-/
import Derived.Test.YtdnjeahbnidefaaChecked
import GoSem.Claim
import GoSem.ClaimJoined
import GoSem.ClaimMapViews
import Derived.JoinedTies
import Derived.KernelRfl
namespace Go.Proofs.Ytdnjeahbnidefaa
/- THE CELL 'sum', in the pinned program and in every row, IS THE sha256 OF THE DUMP (.gsa) THAT YtdnjeahbnidefaaProg.lean LOADS. Nothing in Lean hashes anything: it is a label: what it is worth is what the hold of that sum in a sandbox is worth. -/
noncomputable def Try.pinned : Pinned := { name := "ytdnjeahbnidefaa", sum := "c0ff7a513d36373777b5459ad014f16a4c0134c4f0620ff9f4e531c8d3b5cdc3", checked := Try.checked }
namespace Rows
def none {H : Type} : Left H := { results := [], args := [] }

/-- 'laws.FnNeeded': WHATEVER THE INPUT: true; the input reads as it did. -/
def fnNeededSpec : ChangeSpec := { name := "fnNeeded", fn := fun _ => fun
  | [d] => { results := [.lit (.bool true)], args := [d] }
  | _ => none }
def fnNeededRow : OpenClaim := { program := "ytdnjeahbnidefaa", sum := "c0ff7a513d36373777b5459ad014f16a4c0134c4f0620ff9f4e531c8d3b5cdc3", func := "loop.example/mailcoaches/laws.FnNeeded", spec := "fnNeeded", unfollowed := true, recurses := true, apart := false }
def FnNeededSaid : Prop := fnNeededRow.holds Try.pinned (OpenSpec.ofChange fnNeededSpec)

/-- ITS FALSE NEIGHBOUR: 'it returns false'. Refute it at one input. -/
def fnNeededWrong : ChangeSpec := { name := "fnNeeded", fn := fun _ => fun
  | [d] => { results := [.lit (.bool false)], args := [d] }
  | _ => none }
def FnNeededWrongFalsely : Prop := fnNeededRow.holds Try.pinned (OpenSpec.ofChange fnNeededWrong)

/-- 'laws.FnRoadsNet': WHATEVER THE INPUT: true; the input reads as it did. -/
def fnRoadsNetSpec : ChangeSpec := { name := "fnRoadsNet", fn := fun _ => fun
  | [d] => { results := [.lit (.bool true)], args := [d] }
  | _ => none }
def fnRoadsNetRow : OpenClaim := { program := "ytdnjeahbnidefaa", sum := "c0ff7a513d36373777b5459ad014f16a4c0134c4f0620ff9f4e531c8d3b5cdc3", func := "loop.example/mailcoaches/laws.FnRoadsNet", spec := "fnRoadsNet", unfollowed := true, recurses := true, apart := false }
def FnRoadsNetSaid : Prop := fnRoadsNetRow.holds Try.pinned (OpenSpec.ofChange fnRoadsNetSpec)

/-- ITS FALSE NEIGHBOUR: 'it returns false'. Refute it at one input. -/
def fnRoadsNetWrong : ChangeSpec := { name := "fnRoadsNet", fn := fun _ => fun
  | [d] => { results := [.lit (.bool false)], args := [d] }
  | _ => none }
def FnRoadsNetWrongFalsely : Prop := fnRoadsNetRow.holds Try.pinned (OpenSpec.ofChange fnRoadsNetWrong)

/-- 'laws.FnWhole': WHATEVER THE INPUT: true; the input reads as it did. -/
def fnWholeSpec : ChangeSpec := { name := "fnWhole", fn := fun _ => fun
  | [d1, d2] => { results := [.lit (.bool true)], args := [d1, d2] }
  | _ => none }
def fnWholeRow : OpenClaim := { program := "ytdnjeahbnidefaa", sum := "c0ff7a513d36373777b5459ad014f16a4c0134c4f0620ff9f4e531c8d3b5cdc3", func := "loop.example/mailcoaches/laws.FnWhole", spec := "fnWhole", unfollowed := true, recurses := true, apart := false }
def FnWholeSaid : Prop := fnWholeRow.holds Try.pinned (OpenSpec.ofChange fnWholeSpec)

/-- ITS FALSE NEIGHBOUR: 'it returns false'. Refute it at one input. -/
def fnWholeWrong : ChangeSpec := { name := "fnWhole", fn := fun _ => fun
  | [d1, d2] => { results := [.lit (.bool false)], args := [d1, d2] }
  | _ => none }
def FnWholeWrongFalsely : Prop := fnWholeRow.holds Try.pinned (OpenSpec.ofChange fnWholeWrong)

/-- 'laws.FnRoadsMany': WHATEVER THE INPUT: true; the input reads as it did. -/
def fnRoadsManySpec : ChangeSpec := { name := "fnRoadsMany", fn := fun _ => fun
  | [d] => { results := [.lit (.bool true)], args := [d] }
  | _ => none }
def fnRoadsManyRow : OpenClaim := { program := "ytdnjeahbnidefaa", sum := "c0ff7a513d36373777b5459ad014f16a4c0134c4f0620ff9f4e531c8d3b5cdc3", func := "loop.example/mailcoaches/laws.FnRoadsMany", spec := "fnRoadsMany", unfollowed := true, recurses := true, apart := false }
def FnRoadsManySaid : Prop := fnRoadsManyRow.holds Try.pinned (OpenSpec.ofChange fnRoadsManySpec)

/-- ITS FALSE NEIGHBOUR: 'it returns false'. Refute it at one input. -/
def fnRoadsManyWrong : ChangeSpec := { name := "fnRoadsMany", fn := fun _ => fun
  | [d] => { results := [.lit (.bool false)], args := [d] }
  | _ => none }
def FnRoadsManyWrongFalsely : Prop := fnRoadsManyRow.holds Try.pinned (OpenSpec.ofChange fnRoadsManyWrong)

/-- 'laws.FnRoadsWay': WHATEVER THE INPUT: true; the input reads as it did. -/
def fnRoadsWaySpec : ChangeSpec := { name := "fnRoadsWay", fn := fun _ => fun
  | [d] => { results := [.lit (.bool true)], args := [d] }
  | _ => none }
def fnRoadsWayRow : OpenClaim := { program := "ytdnjeahbnidefaa", sum := "c0ff7a513d36373777b5459ad014f16a4c0134c4f0620ff9f4e531c8d3b5cdc3", func := "loop.example/mailcoaches/laws.FnRoadsWay", spec := "fnRoadsWay", unfollowed := true, recurses := true, apart := false }
def FnRoadsWaySaid : Prop := fnRoadsWayRow.holds Try.pinned (OpenSpec.ofChange fnRoadsWaySpec)

/-- ITS FALSE NEIGHBOUR: 'it returns false'. Refute it at one input. -/
def fnRoadsWayWrong : ChangeSpec := { name := "fnRoadsWay", fn := fun _ => fun
  | [d] => { results := [.lit (.bool false)], args := [d] }
  | _ => none }
def FnRoadsWayWrongFalsely : Prop := fnRoadsWayRow.holds Try.pinned (OpenSpec.ofChange fnRoadsWayWrong)

/-- 'laws.FnRoadsLength': WHATEVER THE INPUT: true; the input reads as it did. -/
def fnRoadsLengthSpec : ChangeSpec := { name := "fnRoadsLength", fn := fun _ => fun
  | [d] => { results := [.lit (.bool true)], args := [d] }
  | _ => none }
def fnRoadsLengthRow : OpenClaim := { program := "ytdnjeahbnidefaa", sum := "c0ff7a513d36373777b5459ad014f16a4c0134c4f0620ff9f4e531c8d3b5cdc3", func := "loop.example/mailcoaches/laws.FnRoadsLength", spec := "fnRoadsLength", unfollowed := true, recurses := true, apart := false }
def FnRoadsLengthSaid : Prop := fnRoadsLengthRow.holds Try.pinned (OpenSpec.ofChange fnRoadsLengthSpec)

/-- ITS FALSE NEIGHBOUR: 'it returns false'. Refute it at one input. -/
def fnRoadsLengthWrong : ChangeSpec := { name := "fnRoadsLength", fn := fun _ => fun
  | [d] => { results := [.lit (.bool false)], args := [d] }
  | _ => none }
def FnRoadsLengthWrongFalsely : Prop := fnRoadsLengthRow.holds Try.pinned (OpenSpec.ofChange fnRoadsLengthWrong)

/- THE SECOND FORM. 'bulk': how many values and letters a reading holds, each counted each time it is reached (what is shared counts as often as it is met; a slice's spare places count too). A statement '..UptoSaid' is the law's where the arguments, and the package variables that the reading takes, are together of bulk at most 1048576: NARROWER than '..Said'. Prove '..Said' where nothing that the law and all that it calls make is longer than what came in: it says more and counts as full. Else prove '..UptoSaid'. A law counts once. -/
mutual
def uptoBulk {H : Type} : DataW H → Nat
  | .lit (.string bytes) => bytes.length + 1
  | .lit _ => 1
  | .nil => 1
  | .ptr d => uptoBulk d + 1
  | .slice elems spare => uptoBulkAll elems + uptoBulkAll spare + 1
  | .agg parts => uptoBulkAll parts + 1
  | .iface _ d => uptoBulk d + 1
  | .map entries => uptoBulkEntries entries + 1
  | .held _ => 1
def uptoBulkAll {H : Type} : List (DataW H) → Nat
  | [] => 0
  | d :: r => uptoBulk d + uptoBulkAll r
def uptoBulkEntries {H : Type} : List (Lit × DataW H) → Nat
  | [] => 0
  | x :: r => uptoBulkEntry x + uptoBulkEntries r
def uptoBulkEntry {H : Type} : Lit × DataW H → Nat
  | (.string bytes, d) => bytes.length + uptoBulk d + 1
  | (_, d) => uptoBulk d + 1
 end
def uptoSmall : (H : Type) → List (DataW H) → Bool := fun _ ds => decide (uptoBulkAll ds ≤ 1048576)
def OpenSpec.upto (s : _root_.Go.ChangeSpec) : _root_.Go.OpenSpec := { _root_.Go.OpenSpec.ofChange s with cond := some uptoSmall }

/-- 'laws.FnNeeded', WHERE WHAT IT READS IS OF BULK AT MOST 1048576: true; the input reads as it did. -/
def fnNeededUptoRow : OpenClaim := { program := "ytdnjeahbnidefaa", sum := "c0ff7a513d36373777b5459ad014f16a4c0134c4f0620ff9f4e531c8d3b5cdc3", func := "loop.example/mailcoaches/laws.FnNeeded", spec := "fnNeeded", unfollowed := true, recurses := true, apart := false, narrowed := true }
def FnNeededUptoSaid : Prop := fnNeededUptoRow.holds Try.pinned (OpenSpec.upto fnNeededSpec)

/-- 'laws.FnRoadsNet', WHERE WHAT IT READS IS OF BULK AT MOST 1048576: true; the input reads as it did. -/
def fnRoadsNetUptoRow : OpenClaim := { program := "ytdnjeahbnidefaa", sum := "c0ff7a513d36373777b5459ad014f16a4c0134c4f0620ff9f4e531c8d3b5cdc3", func := "loop.example/mailcoaches/laws.FnRoadsNet", spec := "fnRoadsNet", unfollowed := true, recurses := true, apart := false, narrowed := true }
def FnRoadsNetUptoSaid : Prop := fnRoadsNetUptoRow.holds Try.pinned (OpenSpec.upto fnRoadsNetSpec)

/-- 'laws.FnWhole', WHERE WHAT IT READS IS OF BULK AT MOST 1048576: true; the input reads as it did. -/
def fnWholeUptoRow : OpenClaim := { program := "ytdnjeahbnidefaa", sum := "c0ff7a513d36373777b5459ad014f16a4c0134c4f0620ff9f4e531c8d3b5cdc3", func := "loop.example/mailcoaches/laws.FnWhole", spec := "fnWhole", unfollowed := true, recurses := true, apart := false, narrowed := true }
def FnWholeUptoSaid : Prop := fnWholeUptoRow.holds Try.pinned (OpenSpec.upto fnWholeSpec)

/-- 'laws.FnRoadsMany', WHERE WHAT IT READS IS OF BULK AT MOST 1048576: true; the input reads as it did. -/
def fnRoadsManyUptoRow : OpenClaim := { program := "ytdnjeahbnidefaa", sum := "c0ff7a513d36373777b5459ad014f16a4c0134c4f0620ff9f4e531c8d3b5cdc3", func := "loop.example/mailcoaches/laws.FnRoadsMany", spec := "fnRoadsMany", unfollowed := true, recurses := true, apart := false, narrowed := true }
def FnRoadsManyUptoSaid : Prop := fnRoadsManyUptoRow.holds Try.pinned (OpenSpec.upto fnRoadsManySpec)

/-- 'laws.FnRoadsWay', WHERE WHAT IT READS IS OF BULK AT MOST 1048576: true; the input reads as it did. -/
def fnRoadsWayUptoRow : OpenClaim := { program := "ytdnjeahbnidefaa", sum := "c0ff7a513d36373777b5459ad014f16a4c0134c4f0620ff9f4e531c8d3b5cdc3", func := "loop.example/mailcoaches/laws.FnRoadsWay", spec := "fnRoadsWay", unfollowed := true, recurses := true, apart := false, narrowed := true }
def FnRoadsWayUptoSaid : Prop := fnRoadsWayUptoRow.holds Try.pinned (OpenSpec.upto fnRoadsWaySpec)

/-- 'laws.FnRoadsLength', WHERE WHAT IT READS IS OF BULK AT MOST 1048576: true; the input reads as it did. -/
def fnRoadsLengthUptoRow : OpenClaim := { program := "ytdnjeahbnidefaa", sum := "c0ff7a513d36373777b5459ad014f16a4c0134c4f0620ff9f4e531c8d3b5cdc3", func := "loop.example/mailcoaches/laws.FnRoadsLength", spec := "fnRoadsLength", unfollowed := true, recurses := true, apart := false, narrowed := true }
def FnRoadsLengthUptoSaid : Prop := fnRoadsLengthUptoRow.holds Try.pinned (OpenSpec.upto fnRoadsLengthSpec)

end Rows
end Go.Proofs.Ytdnjeahbnidefaa

/-
  No cell of these rows narrows 'for every input' (looked for: loops, veiled, ifaces, maps, wideKeys, modest, calm, conditions, laid).
  DERIVED. THE GIVEN ROWS OF THIS SEAT. 9 by the template 'for every input the law returns true; each argument reads behind the call as it read before'; 0 by the template 'total and deterministic' (their statements: YtpcmkegogcffiaaTotals.lean).
  GIVEN WITH THE SEED: the statements are not yours to turn. If you find one false, say at which input.
  Laid BY PROGRAM, IN A SANDBOX (cutbox-rows.mjs): the forced cells as the released guide's own fill.sh prints them over the translation e2d4328bfef9e35f… (all of the seat's roots in one cut). By AI agents, Wed Nov 11 2026. No macro, syntax, notation, axiom, sorry.
-/
import Derived.Test.YtpcmkegogcffiaaChecked
import GoSem.Claim
import GoSem.ClaimJoined
import GoSem.ClaimMapViews
import Derived.JoinedTies
import Derived.KernelRfl
namespace Go.Proofs.Ytpcmkegogcffiaa
/- THE CELL 'sum', in the pinned program and in every row, IS THE sha256 OF THE DUMP (.gsa) THAT YtpcmkegogcffiaaProg.lean LOADS. Nothing in Lean hashes anything: it is a label: what it is worth is what the hold of that sum in a sandbox is worth. -/
noncomputable def Try.pinned : Pinned := { name := "ytpcmkegogcffiaa", sum := "e2d4328bfef9e35fbe05d4c5240dfe3b9a7468ca368dcd3b2807fff63373b43a", checked := Try.checked }
namespace Rows
def none {H : Type} : Left H := { results := [], args := [] }

/-- 'laws.FnSeatsFull': WHATEVER THE INPUT: true; the input reads as it did. -/
def fnSeatsFullSpec : ChangeSpec := { name := "fnSeatsFull", fn := fun _ => fun
  | [d] => { results := [.lit (.bool true)], args := [d] }
  | _ => none }
def fnSeatsFullRow : OpenClaim := { program := "ytpcmkegogcffiaa", sum := "e2d4328bfef9e35fbe05d4c5240dfe3b9a7468ca368dcd3b2807fff63373b43a", func := "loop.example/mailcoaches/laws.FnSeatsFull", spec := "fnSeatsFull", unfollowed := true, recurses := true, apart := false }
def FnSeatsFullSaid : Prop := fnSeatsFullRow.holds Try.pinned (OpenSpec.ofChange fnSeatsFullSpec)

/-- ITS FALSE NEIGHBOUR: 'it returns false'. Refute it at one input. -/
def fnSeatsFullWrong : ChangeSpec := { name := "fnSeatsFull", fn := fun _ => fun
  | [d] => { results := [.lit (.bool false)], args := [d] }
  | _ => none }
def FnSeatsFullWrongFalsely : Prop := fnSeatsFullRow.holds Try.pinned (OpenSpec.ofChange fnSeatsFullWrong)

/-- 'laws.FnTakings': WHATEVER THE INPUT: true; the input reads as it did. -/
def fnTakingsSpec : ChangeSpec := { name := "fnTakings", fn := fun _ => fun
  | [d1, d2] => { results := [.lit (.bool true)], args := [d1, d2] }
  | _ => none }
def fnTakingsRow : OpenClaim := { program := "ytpcmkegogcffiaa", sum := "e2d4328bfef9e35fbe05d4c5240dfe3b9a7468ca368dcd3b2807fff63373b43a", func := "loop.example/mailcoaches/laws.FnTakings", spec := "fnTakings", unfollowed := true, recurses := true, apart := false }
def FnTakingsSaid : Prop := fnTakingsRow.holds Try.pinned (OpenSpec.ofChange fnTakingsSpec)

/-- ITS FALSE NEIGHBOUR: 'it returns false'. Refute it at one input. -/
def fnTakingsWrong : ChangeSpec := { name := "fnTakings", fn := fun _ => fun
  | [d1, d2] => { results := [.lit (.bool false)], args := [d1, d2] }
  | _ => none }
def FnTakingsWrongFalsely : Prop := fnTakingsRow.holds Try.pinned (OpenSpec.ofChange fnTakingsWrong)

/-- 'laws.FnSeatsBook': WHATEVER THE INPUT: true; the input reads as it did. -/
def fnSeatsBookSpec : ChangeSpec := { name := "fnSeatsBook", fn := fun _ => fun
  | [d] => { results := [.lit (.bool true)], args := [d] }
  | _ => none }
def fnSeatsBookRow : OpenClaim := { program := "ytpcmkegogcffiaa", sum := "e2d4328bfef9e35fbe05d4c5240dfe3b9a7468ca368dcd3b2807fff63373b43a", func := "loop.example/mailcoaches/laws.FnSeatsBook", spec := "fnSeatsBook", unfollowed := true, recurses := true, apart := false }
def FnSeatsBookSaid : Prop := fnSeatsBookRow.holds Try.pinned (OpenSpec.ofChange fnSeatsBookSpec)

/-- ITS FALSE NEIGHBOUR: 'it returns false'. Refute it at one input. -/
def fnSeatsBookWrong : ChangeSpec := { name := "fnSeatsBook", fn := fun _ => fun
  | [d] => { results := [.lit (.bool false)], args := [d] }
  | _ => none }
def FnSeatsBookWrongFalsely : Prop := fnSeatsBookRow.holds Try.pinned (OpenSpec.ofChange fnSeatsBookWrong)

/-- 'laws.FnSeatsMove': WHATEVER THE INPUT: true; the input reads as it did. -/
def fnSeatsMoveSpec : ChangeSpec := { name := "fnSeatsMove", fn := fun _ => fun
  | [d] => { results := [.lit (.bool true)], args := [d] }
  | _ => none }
def fnSeatsMoveRow : OpenClaim := { program := "ytpcmkegogcffiaa", sum := "e2d4328bfef9e35fbe05d4c5240dfe3b9a7468ca368dcd3b2807fff63373b43a", func := "loop.example/mailcoaches/laws.FnSeatsMove", spec := "fnSeatsMove", unfollowed := true, recurses := true, apart := false }
def FnSeatsMoveSaid : Prop := fnSeatsMoveRow.holds Try.pinned (OpenSpec.ofChange fnSeatsMoveSpec)

/-- ITS FALSE NEIGHBOUR: 'it returns false'. Refute it at one input. -/
def fnSeatsMoveWrong : ChangeSpec := { name := "fnSeatsMove", fn := fun _ => fun
  | [d] => { results := [.lit (.bool false)], args := [d] }
  | _ => none }
def FnSeatsMoveWrongFalsely : Prop := fnSeatsMoveRow.holds Try.pinned (OpenSpec.ofChange fnSeatsMoveWrong)

/-- 'laws.FnSeatsFree': WHATEVER THE INPUT: true; the input reads as it did. -/
def fnSeatsFreeSpec : ChangeSpec := { name := "fnSeatsFree", fn := fun _ => fun
  | [d1, d2] => { results := [.lit (.bool true)], args := [d1, d2] }
  | _ => none }
def fnSeatsFreeRow : OpenClaim := { program := "ytpcmkegogcffiaa", sum := "e2d4328bfef9e35fbe05d4c5240dfe3b9a7468ca368dcd3b2807fff63373b43a", func := "loop.example/mailcoaches/laws.FnSeatsFree", spec := "fnSeatsFree", unfollowed := true, recurses := true, apart := false }
def FnSeatsFreeSaid : Prop := fnSeatsFreeRow.holds Try.pinned (OpenSpec.ofChange fnSeatsFreeSpec)

/-- ITS FALSE NEIGHBOUR: 'it returns false'. Refute it at one input. -/
def fnSeatsFreeWrong : ChangeSpec := { name := "fnSeatsFree", fn := fun _ => fun
  | [d1, d2] => { results := [.lit (.bool false)], args := [d1, d2] }
  | _ => none }
def FnSeatsFreeWrongFalsely : Prop := fnSeatsFreeRow.holds Try.pinned (OpenSpec.ofChange fnSeatsFreeWrong)

/-- 'laws.FnSeatsBestMost': WHATEVER THE INPUT: true; the input reads as it did. -/
def fnSeatsBestMostSpec : ChangeSpec := { name := "fnSeatsBestMost", fn := fun _ => fun
  | [d] => { results := [.lit (.bool true)], args := [d] }
  | _ => none }
def fnSeatsBestMostRow : OpenClaim := { program := "ytpcmkegogcffiaa", sum := "e2d4328bfef9e35fbe05d4c5240dfe3b9a7468ca368dcd3b2807fff63373b43a", func := "loop.example/mailcoaches/laws.FnSeatsBestMost", spec := "fnSeatsBestMost", unfollowed := true, recurses := true, apart := false }
def FnSeatsBestMostSaid : Prop := fnSeatsBestMostRow.holds Try.pinned (OpenSpec.ofChange fnSeatsBestMostSpec)

/-- ITS FALSE NEIGHBOUR: 'it returns false'. Refute it at one input. -/
def fnSeatsBestMostWrong : ChangeSpec := { name := "fnSeatsBestMost", fn := fun _ => fun
  | [d] => { results := [.lit (.bool false)], args := [d] }
  | _ => none }
def FnSeatsBestMostWrongFalsely : Prop := fnSeatsBestMostRow.holds Try.pinned (OpenSpec.ofChange fnSeatsBestMostWrong)

/-- 'laws.FnSeatsBest': WHATEVER THE INPUT: true; the input reads as it did. -/
def fnSeatsBestSpec : ChangeSpec := { name := "fnSeatsBest", fn := fun _ => fun
  | [d] => { results := [.lit (.bool true)], args := [d] }
  | _ => none }
def fnSeatsBestRow : OpenClaim := { program := "ytpcmkegogcffiaa", sum := "e2d4328bfef9e35fbe05d4c5240dfe3b9a7468ca368dcd3b2807fff63373b43a", func := "loop.example/mailcoaches/laws.FnSeatsBest", spec := "fnSeatsBest", unfollowed := true, recurses := true, apart := false }
def FnSeatsBestSaid : Prop := fnSeatsBestRow.holds Try.pinned (OpenSpec.ofChange fnSeatsBestSpec)

/-- ITS FALSE NEIGHBOUR: 'it returns false'. Refute it at one input. -/
def fnSeatsBestWrong : ChangeSpec := { name := "fnSeatsBest", fn := fun _ => fun
  | [d] => { results := [.lit (.bool false)], args := [d] }
  | _ => none }
def FnSeatsBestWrongFalsely : Prop := fnSeatsBestRow.holds Try.pinned (OpenSpec.ofChange fnSeatsBestWrong)

/-- 'laws.FnRosterSwap': WHATEVER THE INPUT: true; the input reads as it did. -/
def fnRosterSwapSpec : ChangeSpec := { name := "fnRosterSwap", fn := fun _ => fun
  | [d] => { results := [.lit (.bool true)], args := [d] }
  | _ => none }
def fnRosterSwapRow : OpenClaim := { program := "ytpcmkegogcffiaa", sum := "e2d4328bfef9e35fbe05d4c5240dfe3b9a7468ca368dcd3b2807fff63373b43a", func := "loop.example/mailcoaches/laws.FnRosterSwap", spec := "fnRosterSwap", apart := false }
def FnRosterSwapSaid : Prop := fnRosterSwapRow.holds Try.pinned (OpenSpec.ofChange fnRosterSwapSpec)

/-- ITS FALSE NEIGHBOUR: 'it returns false'. Refute it at one input. -/
def fnRosterSwapWrong : ChangeSpec := { name := "fnRosterSwap", fn := fun _ => fun
  | [d] => { results := [.lit (.bool false)], args := [d] }
  | _ => none }
def FnRosterSwapWrongFalsely : Prop := fnRosterSwapRow.holds Try.pinned (OpenSpec.ofChange fnRosterSwapWrong)

/-- 'laws.FnRosterTeams': WHATEVER THE INPUT: true; the input reads as it did. -/
def fnRosterTeamsSpec : ChangeSpec := { name := "fnRosterTeams", fn := fun _ => fun
  | [d1, d2] => { results := [.lit (.bool true)], args := [d1, d2] }
  | _ => none }
def fnRosterTeamsRow : OpenClaim := { program := "ytpcmkegogcffiaa", sum := "e2d4328bfef9e35fbe05d4c5240dfe3b9a7468ca368dcd3b2807fff63373b43a", func := "loop.example/mailcoaches/laws.FnRosterTeams", spec := "fnRosterTeams", unfollowed := true, recurses := true, apart := false }
def FnRosterTeamsSaid : Prop := fnRosterTeamsRow.holds Try.pinned (OpenSpec.ofChange fnRosterTeamsSpec)

/-- ITS FALSE NEIGHBOUR: 'it returns false'. Refute it at one input. -/
def fnRosterTeamsWrong : ChangeSpec := { name := "fnRosterTeams", fn := fun _ => fun
  | [d1, d2] => { results := [.lit (.bool false)], args := [d1, d2] }
  | _ => none }
def FnRosterTeamsWrongFalsely : Prop := fnRosterTeamsRow.holds Try.pinned (OpenSpec.ofChange fnRosterTeamsWrong)

/- THE SECOND FORM. 'bulk': how many values and letters a reading holds, each counted each time it is reached (what is shared counts as often as it is met; a slice's spare places count too). A statement '..UptoSaid' is the law's where the arguments, and the package variables that the reading takes, are together of bulk at most 1048576: NARROWER than '..Said'. Prove '..Said' where nothing that the law and all that it calls make is longer than what came in: it says more and counts as full. Else prove '..UptoSaid'. A law counts once. -/
mutual
def uptoBulk {H : Type} : DataW H → Nat
  | .lit (.string bytes) => bytes.length + 1
  | .lit _ => 1
  | .nil => 1
  | .ptr d => uptoBulk d + 1
  | .slice elems spare => uptoBulkAll elems + uptoBulkAll spare + 1
  | .agg parts => uptoBulkAll parts + 1
  | .iface _ d => uptoBulk d + 1
  | .map entries => uptoBulkEntries entries + 1
  | .held _ => 1
def uptoBulkAll {H : Type} : List (DataW H) → Nat
  | [] => 0
  | d :: r => uptoBulk d + uptoBulkAll r
def uptoBulkEntries {H : Type} : List (Lit × DataW H) → Nat
  | [] => 0
  | x :: r => uptoBulkEntry x + uptoBulkEntries r
def uptoBulkEntry {H : Type} : Lit × DataW H → Nat
  | (.string bytes, d) => bytes.length + uptoBulk d + 1
  | (_, d) => uptoBulk d + 1
 end
def uptoSmall : (H : Type) → List (DataW H) → Bool := fun _ ds => decide (uptoBulkAll ds ≤ 1048576)
def OpenSpec.upto (s : _root_.Go.ChangeSpec) : _root_.Go.OpenSpec := { _root_.Go.OpenSpec.ofChange s with cond := some uptoSmall }

/-- 'laws.FnSeatsFull', WHERE WHAT IT READS IS OF BULK AT MOST 1048576: true; the input reads as it did. -/
def fnSeatsFullUptoRow : OpenClaim := { program := "ytpcmkegogcffiaa", sum := "e2d4328bfef9e35fbe05d4c5240dfe3b9a7468ca368dcd3b2807fff63373b43a", func := "loop.example/mailcoaches/laws.FnSeatsFull", spec := "fnSeatsFull", unfollowed := true, recurses := true, apart := false, narrowed := true }
def FnSeatsFullUptoSaid : Prop := fnSeatsFullUptoRow.holds Try.pinned (OpenSpec.upto fnSeatsFullSpec)

/-- 'laws.FnTakings', WHERE WHAT IT READS IS OF BULK AT MOST 1048576: true; the input reads as it did. -/
def fnTakingsUptoRow : OpenClaim := { program := "ytpcmkegogcffiaa", sum := "e2d4328bfef9e35fbe05d4c5240dfe3b9a7468ca368dcd3b2807fff63373b43a", func := "loop.example/mailcoaches/laws.FnTakings", spec := "fnTakings", unfollowed := true, recurses := true, apart := false, narrowed := true }
def FnTakingsUptoSaid : Prop := fnTakingsUptoRow.holds Try.pinned (OpenSpec.upto fnTakingsSpec)

/-- 'laws.FnSeatsBook', WHERE WHAT IT READS IS OF BULK AT MOST 1048576: true; the input reads as it did. -/
def fnSeatsBookUptoRow : OpenClaim := { program := "ytpcmkegogcffiaa", sum := "e2d4328bfef9e35fbe05d4c5240dfe3b9a7468ca368dcd3b2807fff63373b43a", func := "loop.example/mailcoaches/laws.FnSeatsBook", spec := "fnSeatsBook", unfollowed := true, recurses := true, apart := false, narrowed := true }
def FnSeatsBookUptoSaid : Prop := fnSeatsBookUptoRow.holds Try.pinned (OpenSpec.upto fnSeatsBookSpec)

/-- 'laws.FnSeatsMove', WHERE WHAT IT READS IS OF BULK AT MOST 1048576: true; the input reads as it did. -/
def fnSeatsMoveUptoRow : OpenClaim := { program := "ytpcmkegogcffiaa", sum := "e2d4328bfef9e35fbe05d4c5240dfe3b9a7468ca368dcd3b2807fff63373b43a", func := "loop.example/mailcoaches/laws.FnSeatsMove", spec := "fnSeatsMove", unfollowed := true, recurses := true, apart := false, narrowed := true }
def FnSeatsMoveUptoSaid : Prop := fnSeatsMoveUptoRow.holds Try.pinned (OpenSpec.upto fnSeatsMoveSpec)

/-- 'laws.FnSeatsFree', WHERE WHAT IT READS IS OF BULK AT MOST 1048576: true; the input reads as it did. -/
def fnSeatsFreeUptoRow : OpenClaim := { program := "ytpcmkegogcffiaa", sum := "e2d4328bfef9e35fbe05d4c5240dfe3b9a7468ca368dcd3b2807fff63373b43a", func := "loop.example/mailcoaches/laws.FnSeatsFree", spec := "fnSeatsFree", unfollowed := true, recurses := true, apart := false, narrowed := true }
def FnSeatsFreeUptoSaid : Prop := fnSeatsFreeUptoRow.holds Try.pinned (OpenSpec.upto fnSeatsFreeSpec)

/-- 'laws.FnSeatsBestMost', WHERE WHAT IT READS IS OF BULK AT MOST 1048576: true; the input reads as it did. -/
def fnSeatsBestMostUptoRow : OpenClaim := { program := "ytpcmkegogcffiaa", sum := "e2d4328bfef9e35fbe05d4c5240dfe3b9a7468ca368dcd3b2807fff63373b43a", func := "loop.example/mailcoaches/laws.FnSeatsBestMost", spec := "fnSeatsBestMost", unfollowed := true, recurses := true, apart := false, narrowed := true }
def FnSeatsBestMostUptoSaid : Prop := fnSeatsBestMostUptoRow.holds Try.pinned (OpenSpec.upto fnSeatsBestMostSpec)

/-- 'laws.FnSeatsBest', WHERE WHAT IT READS IS OF BULK AT MOST 1048576: true; the input reads as it did. -/
def fnSeatsBestUptoRow : OpenClaim := { program := "ytpcmkegogcffiaa", sum := "e2d4328bfef9e35fbe05d4c5240dfe3b9a7468ca368dcd3b2807fff63373b43a", func := "loop.example/mailcoaches/laws.FnSeatsBest", spec := "fnSeatsBest", unfollowed := true, recurses := true, apart := false, narrowed := true }
def FnSeatsBestUptoSaid : Prop := fnSeatsBestUptoRow.holds Try.pinned (OpenSpec.upto fnSeatsBestSpec)

/-- 'laws.FnRosterSwap', WHERE WHAT IT READS IS OF BULK AT MOST 1048576: true; the input reads as it did. -/
def fnRosterSwapUptoRow : OpenClaim := { program := "ytpcmkegogcffiaa", sum := "e2d4328bfef9e35fbe05d4c5240dfe3b9a7468ca368dcd3b2807fff63373b43a", func := "loop.example/mailcoaches/laws.FnRosterSwap", spec := "fnRosterSwap", apart := false, narrowed := true }
def FnRosterSwapUptoSaid : Prop := fnRosterSwapUptoRow.holds Try.pinned (OpenSpec.upto fnRosterSwapSpec)

/-- 'laws.FnRosterTeams', WHERE WHAT IT READS IS OF BULK AT MOST 1048576: true; the input reads as it did. -/
def fnRosterTeamsUptoRow : OpenClaim := { program := "ytpcmkegogcffiaa", sum := "e2d4328bfef9e35fbe05d4c5240dfe3b9a7468ca368dcd3b2807fff63373b43a", func := "loop.example/mailcoaches/laws.FnRosterTeams", spec := "fnRosterTeams", unfollowed := true, recurses := true, apart := false, narrowed := true }
def FnRosterTeamsUptoSaid : Prop := fnRosterTeamsUptoRow.holds Try.pinned (OpenSpec.upto fnRosterTeamsSpec)

end Rows
end Go.Proofs.Ytpcmkegogcffiaa

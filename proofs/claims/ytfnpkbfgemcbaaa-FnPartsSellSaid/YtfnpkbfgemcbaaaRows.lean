/-
  No cell of these rows narrows 'for every input' (looked for: loops, veiled, ifaces, maps, wideKeys, modest, calm, conditions, laid).
  DERIVED. THE GIVEN ROWS OF THIS SEAT. 6 by the template 'for every input the law returns true; each argument reads behind the call as it read before'; 0 by the template 'total and deterministic' (their statements: YtfnpkbfgemcbaaaTotals.lean).
  GIVEN WITH THE SEED: the statements are not yours to turn. If you find one false, say at which input.
  Laid BY PROGRAM, IN A SANDBOX (cutbox-rows.mjs): the forced cells as the released guide's own fill.sh prints them over the translation ce7014ce74e035b8… (all of the seat's roots in one cut). By AI agents, Wed Nov 11 2026. No macro, syntax, notation, axiom, sorry.
-/
import Derived.Test.YtfnpkbfgemcbaaaChecked
import GoSem.Claim
import GoSem.ClaimJoined
import GoSem.ClaimMapViews
import Derived.JoinedTies
import Derived.KernelRfl
namespace Go.Proofs.Ytfnpkbfgemcbaaa
/- THE CELL 'sum', in the pinned program and in every row, IS THE sha256 OF THE DUMP (.gsa) THAT YtfnpkbfgemcbaaaProg.lean LOADS. Nothing in Lean hashes anything: it is a label: what it is worth is what the hold of that sum in a sandbox is worth. -/
noncomputable def Try.pinned : Pinned := { name := "ytfnpkbfgemcbaaa", sum := "ce7014ce74e035b831fdedd6d9c03b2ee35bcb499ac7c7d0810d0e7fe3e87f06", checked := Try.checked }
namespace Rows
def none {H : Type} : Left H := { results := [], args := [] }

/-- 'laws.FnExactPartsSell': WHATEVER THE INPUT: true; the input reads as it did. -/
def fnExactPartsSellSpec : ChangeSpec := { name := "fnExactPartsSell", fn := fun _ => fun
  | [d1, d2, d3, d4] => { results := [.lit (.bool true)], args := [d1, d2, d3, d4] }
  | _ => none }
def fnExactPartsSellRow : OpenClaim := { program := "ytfnpkbfgemcbaaa", sum := "ce7014ce74e035b831fdedd6d9c03b2ee35bcb499ac7c7d0810d0e7fe3e87f06", func := "loop.example/mailcoaches/laws.FnExactPartsSell", spec := "fnExactPartsSell", unfollowed := true, recurses := true, apart := false }
def FnExactPartsSellSaid : Prop := fnExactPartsSellRow.holds Try.pinned (OpenSpec.ofChange fnExactPartsSellSpec)

/-- ITS FALSE NEIGHBOUR: 'it returns false'. Refute it at one input. -/
def fnExactPartsSellWrong : ChangeSpec := { name := "fnExactPartsSell", fn := fun _ => fun
  | [d1, d2, d3, d4] => { results := [.lit (.bool false)], args := [d1, d2, d3, d4] }
  | _ => none }
def FnExactPartsSellWrongFalsely : Prop := fnExactPartsSellRow.holds Try.pinned (OpenSpec.ofChange fnExactPartsSellWrong)

/-- 'laws.FnPartsPlain': WHATEVER THE INPUT: true; the input reads as it did. -/
def fnPartsPlainSpec : ChangeSpec := { name := "fnPartsPlain", fn := fun _ => fun
  | [d1, d2] => { results := [.lit (.bool true)], args := [d1, d2] }
  | _ => none }
def fnPartsPlainRow : OpenClaim := { program := "ytfnpkbfgemcbaaa", sum := "ce7014ce74e035b831fdedd6d9c03b2ee35bcb499ac7c7d0810d0e7fe3e87f06", func := "loop.example/mailcoaches/laws.FnPartsPlain", spec := "fnPartsPlain", unfollowed := true, recurses := true, apart := false }
def FnPartsPlainSaid : Prop := fnPartsPlainRow.holds Try.pinned (OpenSpec.ofChange fnPartsPlainSpec)

/-- ITS FALSE NEIGHBOUR: 'it returns false'. Refute it at one input. -/
def fnPartsPlainWrong : ChangeSpec := { name := "fnPartsPlain", fn := fun _ => fun
  | [d1, d2] => { results := [.lit (.bool false)], args := [d1, d2] }
  | _ => none }
def FnPartsPlainWrongFalsely : Prop := fnPartsPlainRow.holds Try.pinned (OpenSpec.ofChange fnPartsPlainWrong)

/-- 'laws.FnPartsOwner': WHATEVER THE INPUT: true; the input reads as it did. -/
def fnPartsOwnerSpec : ChangeSpec := { name := "fnPartsOwner", fn := fun _ => fun
  | [d] => { results := [.lit (.bool true)], args := [d] }
  | _ => none }
def fnPartsOwnerRow : OpenClaim := { program := "ytfnpkbfgemcbaaa", sum := "ce7014ce74e035b831fdedd6d9c03b2ee35bcb499ac7c7d0810d0e7fe3e87f06", func := "loop.example/mailcoaches/laws.FnPartsOwner", spec := "fnPartsOwner", unfollowed := true, recurses := true, apart := false }
def FnPartsOwnerSaid : Prop := fnPartsOwnerRow.holds Try.pinned (OpenSpec.ofChange fnPartsOwnerSpec)

/-- ITS FALSE NEIGHBOUR: 'it returns false'. Refute it at one input. -/
def fnPartsOwnerWrong : ChangeSpec := { name := "fnPartsOwner", fn := fun _ => fun
  | [d] => { results := [.lit (.bool false)], args := [d] }
  | _ => none }
def FnPartsOwnerWrongFalsely : Prop := fnPartsOwnerRow.holds Try.pinned (OpenSpec.ofChange fnPartsOwnerWrong)

/-- 'laws.FnPartsSell': WHATEVER THE INPUT: true; the input reads as it did. -/
def fnPartsSellSpec : ChangeSpec := { name := "fnPartsSell", fn := fun _ => fun
  | [d] => { results := [.lit (.bool true)], args := [d] }
  | _ => none }
def fnPartsSellRow : OpenClaim := { program := "ytfnpkbfgemcbaaa", sum := "ce7014ce74e035b831fdedd6d9c03b2ee35bcb499ac7c7d0810d0e7fe3e87f06", func := "loop.example/mailcoaches/laws.FnPartsSell", spec := "fnPartsSell", unfollowed := true, recurses := true, apart := false }
def FnPartsSellSaid : Prop := fnPartsSellRow.holds Try.pinned (OpenSpec.ofChange fnPartsSellSpec)

/-- ITS FALSE NEIGHBOUR: 'it returns false'. Refute it at one input. -/
def fnPartsSellWrong : ChangeSpec := { name := "fnPartsSell", fn := fun _ => fun
  | [d] => { results := [.lit (.bool false)], args := [d] }
  | _ => none }
def FnPartsSellWrongFalsely : Prop := fnPartsSellRow.holds Try.pinned (OpenSpec.ofChange fnPartsSellWrong)

/-- 'laws.FnPartsTurn': WHATEVER THE INPUT: true; the input reads as it did. -/
def fnPartsTurnSpec : ChangeSpec := { name := "fnPartsTurn", fn := fun _ => fun
  | [d1, d2] => { results := [.lit (.bool true)], args := [d1, d2] }
  | _ => none }
def fnPartsTurnRow : OpenClaim := { program := "ytfnpkbfgemcbaaa", sum := "ce7014ce74e035b831fdedd6d9c03b2ee35bcb499ac7c7d0810d0e7fe3e87f06", func := "loop.example/mailcoaches/laws.FnPartsTurn", spec := "fnPartsTurn", unfollowed := true, recurses := true, apart := false }
def FnPartsTurnSaid : Prop := fnPartsTurnRow.holds Try.pinned (OpenSpec.ofChange fnPartsTurnSpec)

/-- ITS FALSE NEIGHBOUR: 'it returns false'. Refute it at one input. -/
def fnPartsTurnWrong : ChangeSpec := { name := "fnPartsTurn", fn := fun _ => fun
  | [d1, d2] => { results := [.lit (.bool false)], args := [d1, d2] }
  | _ => none }
def FnPartsTurnWrongFalsely : Prop := fnPartsTurnRow.holds Try.pinned (OpenSpec.ofChange fnPartsTurnWrong)

/-- 'laws.FnShareDue': WHATEVER THE INPUT: true; the input reads as it did. -/
def fnShareDueSpec : ChangeSpec := { name := "fnShareDue", fn := fun _ => fun
  | [d] => { results := [.lit (.bool true)], args := [d] }
  | _ => none }
def fnShareDueRow : OpenClaim := { program := "ytfnpkbfgemcbaaa", sum := "ce7014ce74e035b831fdedd6d9c03b2ee35bcb499ac7c7d0810d0e7fe3e87f06", func := "loop.example/mailcoaches/laws.FnShareDue", spec := "fnShareDue", unfollowed := true, recurses := true, apart := false }
def FnShareDueSaid : Prop := fnShareDueRow.holds Try.pinned (OpenSpec.ofChange fnShareDueSpec)

/-- ITS FALSE NEIGHBOUR: 'it returns false'. Refute it at one input. -/
def fnShareDueWrong : ChangeSpec := { name := "fnShareDue", fn := fun _ => fun
  | [d] => { results := [.lit (.bool false)], args := [d] }
  | _ => none }
def FnShareDueWrongFalsely : Prop := fnShareDueRow.holds Try.pinned (OpenSpec.ofChange fnShareDueWrong)

/- THE SECOND FORM. 'bulk': how many values and letters a reading holds, each counted each time it is reached (what is shared counts as often as it is met; a slice's spare places count too). A statement '..UptoSaid' is the law's where the arguments, and the package variables that the reading takes, are together of bulk at most 1048576: NARROWER than '..Said'. Prove '..Said' where nothing that the law and all that it calls make is longer than what came in: it says more and counts as full. Else prove '..UptoSaid'. A law counts once. -/
mutual
def uptoBulk {H : Type} : DataW H → Nat
  | .lit (.string bytes) => bytes.length + 1
  | .lit _ => 1
  | .nil => 1
  | .ptr d => uptoBulk d + 1
  | .slice elems spare => uptoBulkAll elems + uptoBulkAll spare + 1
  | .agg parts => uptoBulkAll parts + 1
  | .iface _ d => uptoBulk d + 1
  | .map entries => uptoBulkEntries entries + 1
  | .held _ => 1
def uptoBulkAll {H : Type} : List (DataW H) → Nat
  | [] => 0
  | d :: r => uptoBulk d + uptoBulkAll r
def uptoBulkEntries {H : Type} : List (Lit × DataW H) → Nat
  | [] => 0
  | x :: r => uptoBulkEntry x + uptoBulkEntries r
def uptoBulkEntry {H : Type} : Lit × DataW H → Nat
  | (.string bytes, d) => bytes.length + uptoBulk d + 1
  | (_, d) => uptoBulk d + 1
 end
def uptoSmall : (H : Type) → List (DataW H) → Bool := fun _ ds => decide (uptoBulkAll ds ≤ 1048576)
def OpenSpec.upto (s : _root_.Go.ChangeSpec) : _root_.Go.OpenSpec := { _root_.Go.OpenSpec.ofChange s with cond := some uptoSmall }

/-- 'laws.FnExactPartsSell', WHERE WHAT IT READS IS OF BULK AT MOST 1048576: true; the input reads as it did. -/
def fnExactPartsSellUptoRow : OpenClaim := { program := "ytfnpkbfgemcbaaa", sum := "ce7014ce74e035b831fdedd6d9c03b2ee35bcb499ac7c7d0810d0e7fe3e87f06", func := "loop.example/mailcoaches/laws.FnExactPartsSell", spec := "fnExactPartsSell", unfollowed := true, recurses := true, apart := false, narrowed := true }
def FnExactPartsSellUptoSaid : Prop := fnExactPartsSellUptoRow.holds Try.pinned (OpenSpec.upto fnExactPartsSellSpec)

/-- 'laws.FnPartsPlain', WHERE WHAT IT READS IS OF BULK AT MOST 1048576: true; the input reads as it did. -/
def fnPartsPlainUptoRow : OpenClaim := { program := "ytfnpkbfgemcbaaa", sum := "ce7014ce74e035b831fdedd6d9c03b2ee35bcb499ac7c7d0810d0e7fe3e87f06", func := "loop.example/mailcoaches/laws.FnPartsPlain", spec := "fnPartsPlain", unfollowed := true, recurses := true, apart := false, narrowed := true }
def FnPartsPlainUptoSaid : Prop := fnPartsPlainUptoRow.holds Try.pinned (OpenSpec.upto fnPartsPlainSpec)

/-- 'laws.FnPartsOwner', WHERE WHAT IT READS IS OF BULK AT MOST 1048576: true; the input reads as it did. -/
def fnPartsOwnerUptoRow : OpenClaim := { program := "ytfnpkbfgemcbaaa", sum := "ce7014ce74e035b831fdedd6d9c03b2ee35bcb499ac7c7d0810d0e7fe3e87f06", func := "loop.example/mailcoaches/laws.FnPartsOwner", spec := "fnPartsOwner", unfollowed := true, recurses := true, apart := false, narrowed := true }
def FnPartsOwnerUptoSaid : Prop := fnPartsOwnerUptoRow.holds Try.pinned (OpenSpec.upto fnPartsOwnerSpec)

/-- 'laws.FnPartsSell', WHERE WHAT IT READS IS OF BULK AT MOST 1048576: true; the input reads as it did. -/
def fnPartsSellUptoRow : OpenClaim := { program := "ytfnpkbfgemcbaaa", sum := "ce7014ce74e035b831fdedd6d9c03b2ee35bcb499ac7c7d0810d0e7fe3e87f06", func := "loop.example/mailcoaches/laws.FnPartsSell", spec := "fnPartsSell", unfollowed := true, recurses := true, apart := false, narrowed := true }
def FnPartsSellUptoSaid : Prop := fnPartsSellUptoRow.holds Try.pinned (OpenSpec.upto fnPartsSellSpec)

/-- 'laws.FnPartsTurn', WHERE WHAT IT READS IS OF BULK AT MOST 1048576: true; the input reads as it did. -/
def fnPartsTurnUptoRow : OpenClaim := { program := "ytfnpkbfgemcbaaa", sum := "ce7014ce74e035b831fdedd6d9c03b2ee35bcb499ac7c7d0810d0e7fe3e87f06", func := "loop.example/mailcoaches/laws.FnPartsTurn", spec := "fnPartsTurn", unfollowed := true, recurses := true, apart := false, narrowed := true }
def FnPartsTurnUptoSaid : Prop := fnPartsTurnUptoRow.holds Try.pinned (OpenSpec.upto fnPartsTurnSpec)

/-- 'laws.FnShareDue', WHERE WHAT IT READS IS OF BULK AT MOST 1048576: true; the input reads as it did. -/
def fnShareDueUptoRow : OpenClaim := { program := "ytfnpkbfgemcbaaa", sum := "ce7014ce74e035b831fdedd6d9c03b2ee35bcb499ac7c7d0810d0e7fe3e87f06", func := "loop.example/mailcoaches/laws.FnShareDue", spec := "fnShareDue", unfollowed := true, recurses := true, apart := false, narrowed := true }
def FnShareDueUptoSaid : Prop := fnShareDueUptoRow.holds Try.pinned (OpenSpec.upto fnShareDueSpec)

end Rows
end Go.Proofs.Ytfnpkbfgemcbaaa

/-
  No cell of these rows narrows 'for every input' (looked for: loops, veiled, ifaces, maps, wideKeys, modest, calm, conditions, laid).
  DERIVED. THE GIVEN ROWS OF THIS SEAT. 12 by the template 'for every input the law returns true; each argument reads behind the call as it read before'; 0 by the template 'total and deterministic' (their statements: YtpiknklaikcilaaTotals.lean).
  GIVEN WITH THE SEED: the statements are not yours to turn. If you find one false, say at which input.
  Laid BY PROGRAM, IN A SANDBOX (cutbox-rows.mjs): the forced cells as the released guide's own fill.sh prints them over the translation 8d521221b318d38d… (all of the seat's roots in one cut). By AI agents, Wed Nov 11 2026. No macro, syntax, notation, axiom, sorry.
-/
import Derived.Test.YtpiknklaikcilaaChecked
import GoSem.Claim
import GoSem.ClaimJoined
import GoSem.ClaimMapViews
import Derived.JoinedTies
import Derived.KernelRfl
namespace Go.Proofs.Ytpiknklaikcilaa
/- THE CELL 'sum', in the pinned program and in every row, IS THE sha256 OF THE DUMP (.gsa) THAT YtpiknklaikcilaaProg.lean LOADS. Nothing in Lean hashes anything: it is a label: what it is worth is what the hold of that sum in a sandbox is worth. -/
noncomputable def Try.pinned : Pinned := { name := "ytpiknklaikcilaa", sum := "8d521221b318d38db0862bda69da8c81257a0790119b76c67e491de00b53a1bb", checked := Try.checked }
namespace Rows
def none {H : Type} : Left H := { results := [], args := [] }

/-- 'laws.FnExactRoadsNet': WHATEVER THE INPUT: true; the input reads as it did. -/
def fnExactRoadsNetSpec : ChangeSpec := { name := "fnExactRoadsNet", fn := fun _ => fun
  | [d1, d2] => { results := [.lit (.bool true)], args := [d1, d2] }
  | _ => none }
def fnExactRoadsNetRow : OpenClaim := { program := "ytpiknklaikcilaa", sum := "8d521221b318d38db0862bda69da8c81257a0790119b76c67e491de00b53a1bb", func := "loop.example/mailcoaches/laws.FnExactRoadsNet", spec := "fnExactRoadsNet", unfollowed := true, recurses := true, apart := false }
def FnExactRoadsNetSaid : Prop := fnExactRoadsNetRow.holds Try.pinned (OpenSpec.ofChange fnExactRoadsNetSpec)

/-- ITS FALSE NEIGHBOUR: 'it returns false'. Refute it at one input. -/
def fnExactRoadsNetWrong : ChangeSpec := { name := "fnExactRoadsNet", fn := fun _ => fun
  | [d1, d2] => { results := [.lit (.bool false)], args := [d1, d2] }
  | _ => none }
def FnExactRoadsNetWrongFalsely : Prop := fnExactRoadsNetRow.holds Try.pinned (OpenSpec.ofChange fnExactRoadsNetWrong)

/-- 'laws.FnExactWayLength': WHATEVER THE INPUT: true; the input reads as it did. -/
def fnExactWayLengthSpec : ChangeSpec := { name := "fnExactWayLength", fn := fun _ => fun
  | [d1, d2, d3] => { results := [.lit (.bool true)], args := [d1, d2, d3] }
  | _ => none }
def fnExactWayLengthRow : OpenClaim := { program := "ytpiknklaikcilaa", sum := "8d521221b318d38db0862bda69da8c81257a0790119b76c67e491de00b53a1bb", func := "loop.example/mailcoaches/laws.FnExactWayLength", spec := "fnExactWayLength", apart := false }
def FnExactWayLengthSaid : Prop := fnExactWayLengthRow.holds Try.pinned (OpenSpec.ofChange fnExactWayLengthSpec)

/-- ITS FALSE NEIGHBOUR: 'it returns false'. Refute it at one input. -/
def fnExactWayLengthWrong : ChangeSpec := { name := "fnExactWayLength", fn := fun _ => fun
  | [d1, d2, d3] => { results := [.lit (.bool false)], args := [d1, d2, d3] }
  | _ => none }
def FnExactWayLengthWrongFalsely : Prop := fnExactWayLengthRow.holds Try.pinned (OpenSpec.ofChange fnExactWayLengthWrong)

/-- 'laws.FnExactRoadsFar': WHATEVER THE INPUT: true; the input reads as it did. -/
def fnExactRoadsFarSpec : ChangeSpec := { name := "fnExactRoadsFar", fn := fun _ => fun
  | [d1, d2, d3, d4] => { results := [.lit (.bool true)], args := [d1, d2, d3, d4] }
  | _ => none }
def fnExactRoadsFarRow : OpenClaim := { program := "ytpiknklaikcilaa", sum := "8d521221b318d38db0862bda69da8c81257a0790119b76c67e491de00b53a1bb", func := "loop.example/mailcoaches/laws.FnExactRoadsFar", spec := "fnExactRoadsFar", unfollowed := true, recurses := true, apart := false }
def FnExactRoadsFarSaid : Prop := fnExactRoadsFarRow.holds Try.pinned (OpenSpec.ofChange fnExactRoadsFarSpec)

/-- ITS FALSE NEIGHBOUR: 'it returns false'. Refute it at one input. -/
def fnExactRoadsFarWrong : ChangeSpec := { name := "fnExactRoadsFar", fn := fun _ => fun
  | [d1, d2, d3, d4] => { results := [.lit (.bool false)], args := [d1, d2, d3, d4] }
  | _ => none }
def FnExactRoadsFarWrongFalsely : Prop := fnExactRoadsFarRow.holds Try.pinned (OpenSpec.ofChange fnExactRoadsFarWrong)

/-- 'laws.FnExactRoadsNeeded': WHATEVER THE INPUT: true; the input reads as it did. -/
def fnExactRoadsNeededSpec : ChangeSpec := { name := "fnExactRoadsNeeded", fn := fun _ => fun
  | [d1, d2] => { results := [.lit (.bool true)], args := [d1, d2] }
  | _ => none }
def fnExactRoadsNeededRow : OpenClaim := { program := "ytpiknklaikcilaa", sum := "8d521221b318d38db0862bda69da8c81257a0790119b76c67e491de00b53a1bb", func := "loop.example/mailcoaches/laws.FnExactRoadsNeeded", spec := "fnExactRoadsNeeded", unfollowed := true, recurses := true, apart := false }
def FnExactRoadsNeededSaid : Prop := fnExactRoadsNeededRow.holds Try.pinned (OpenSpec.ofChange fnExactRoadsNeededSpec)

/-- ITS FALSE NEIGHBOUR: 'it returns false'. Refute it at one input. -/
def fnExactRoadsNeededWrong : ChangeSpec := { name := "fnExactRoadsNeeded", fn := fun _ => fun
  | [d1, d2] => { results := [.lit (.bool false)], args := [d1, d2] }
  | _ => none }
def FnExactRoadsNeededWrongFalsely : Prop := fnExactRoadsNeededRow.holds Try.pinned (OpenSpec.ofChange fnExactRoadsNeededWrong)

/-- 'laws.FnExactRoadsMany': WHATEVER THE INPUT: true; the input reads as it did. -/
def fnExactRoadsManySpec : ChangeSpec := { name := "fnExactRoadsMany", fn := fun _ => fun
  | [d1, d2, d3, d4] => { results := [.lit (.bool true)], args := [d1, d2, d3, d4] }
  | _ => none }
def fnExactRoadsManyRow : OpenClaim := { program := "ytpiknklaikcilaa", sum := "8d521221b318d38db0862bda69da8c81257a0790119b76c67e491de00b53a1bb", func := "loop.example/mailcoaches/laws.FnExactRoadsMany", spec := "fnExactRoadsMany", unfollowed := true, recurses := true, apart := false }
def FnExactRoadsManySaid : Prop := fnExactRoadsManyRow.holds Try.pinned (OpenSpec.ofChange fnExactRoadsManySpec)

/-- ITS FALSE NEIGHBOUR: 'it returns false'. Refute it at one input. -/
def fnExactRoadsManyWrong : ChangeSpec := { name := "fnExactRoadsMany", fn := fun _ => fun
  | [d1, d2, d3, d4] => { results := [.lit (.bool false)], args := [d1, d2, d3, d4] }
  | _ => none }
def FnExactRoadsManyWrongFalsely : Prop := fnExactRoadsManyRow.holds Try.pinned (OpenSpec.ofChange fnExactRoadsManyWrong)

/-- 'laws.FnExactRoadsWay': WHATEVER THE INPUT: true; the input reads as it did. -/
def fnExactRoadsWaySpec : ChangeSpec := { name := "fnExactRoadsWay", fn := fun _ => fun
  | [d1, d2, d3, d4] => { results := [.lit (.bool true)], args := [d1, d2, d3, d4] }
  | _ => none }
def fnExactRoadsWayRow : OpenClaim := { program := "ytpiknklaikcilaa", sum := "8d521221b318d38db0862bda69da8c81257a0790119b76c67e491de00b53a1bb", func := "loop.example/mailcoaches/laws.FnExactRoadsWay", spec := "fnExactRoadsWay", unfollowed := true, recurses := true, apart := false }
def FnExactRoadsWaySaid : Prop := fnExactRoadsWayRow.holds Try.pinned (OpenSpec.ofChange fnExactRoadsWaySpec)

/-- ITS FALSE NEIGHBOUR: 'it returns false'. Refute it at one input. -/
def fnExactRoadsWayWrong : ChangeSpec := { name := "fnExactRoadsWay", fn := fun _ => fun
  | [d1, d2, d3, d4] => { results := [.lit (.bool false)], args := [d1, d2, d3, d4] }
  | _ => none }
def FnExactRoadsWayWrongFalsely : Prop := fnExactRoadsWayRow.holds Try.pinned (OpenSpec.ofChange fnExactRoadsWayWrong)

/-- 'laws.FnFar': WHATEVER THE INPUT: true; the input reads as it did. -/
def fnFarSpec : ChangeSpec := { name := "fnFar", fn := fun _ => fun
  | [d1, d2] => { results := [.lit (.bool true)], args := [d1, d2] }
  | _ => none }
def fnFarRow : OpenClaim := { program := "ytpiknklaikcilaa", sum := "8d521221b318d38db0862bda69da8c81257a0790119b76c67e491de00b53a1bb", func := "loop.example/mailcoaches/laws.FnFar", spec := "fnFar", unfollowed := true, recurses := true, apart := false }
def FnFarSaid : Prop := fnFarRow.holds Try.pinned (OpenSpec.ofChange fnFarSpec)

/-- ITS FALSE NEIGHBOUR: 'it returns false'. Refute it at one input. -/
def fnFarWrong : ChangeSpec := { name := "fnFar", fn := fun _ => fun
  | [d1, d2] => { results := [.lit (.bool false)], args := [d1, d2] }
  | _ => none }
def FnFarWrongFalsely : Prop := fnFarRow.holds Try.pinned (OpenSpec.ofChange fnFarWrong)

/-- 'laws.FnWay': WHATEVER THE INPUT: true; the input reads as it did. -/
def fnWaySpec : ChangeSpec := { name := "fnWay", fn := fun _ => fun
  | [d1, d2] => { results := [.lit (.bool true)], args := [d1, d2] }
  | _ => none }
def fnWayRow : OpenClaim := { program := "ytpiknklaikcilaa", sum := "8d521221b318d38db0862bda69da8c81257a0790119b76c67e491de00b53a1bb", func := "loop.example/mailcoaches/laws.FnWay", spec := "fnWay", unfollowed := true, recurses := true, apart := false }
def FnWaySaid : Prop := fnWayRow.holds Try.pinned (OpenSpec.ofChange fnWaySpec)

/-- ITS FALSE NEIGHBOUR: 'it returns false'. Refute it at one input. -/
def fnWayWrong : ChangeSpec := { name := "fnWay", fn := fun _ => fun
  | [d1, d2] => { results := [.lit (.bool false)], args := [d1, d2] }
  | _ => none }
def FnWayWrongFalsely : Prop := fnWayRow.holds Try.pinned (OpenSpec.ofChange fnWayWrong)

/-- 'laws.FnDirect': WHATEVER THE INPUT: true; the input reads as it did. -/
def fnDirectSpec : ChangeSpec := { name := "fnDirect", fn := fun _ => fun
  | [d] => { results := [.lit (.bool true)], args := [d] }
  | _ => none }
def fnDirectRow : OpenClaim := { program := "ytpiknklaikcilaa", sum := "8d521221b318d38db0862bda69da8c81257a0790119b76c67e491de00b53a1bb", func := "loop.example/mailcoaches/laws.FnDirect", spec := "fnDirect", unfollowed := true, recurses := true, apart := false }
def FnDirectSaid : Prop := fnDirectRow.holds Try.pinned (OpenSpec.ofChange fnDirectSpec)

/-- ITS FALSE NEIGHBOUR: 'it returns false'. Refute it at one input. -/
def fnDirectWrong : ChangeSpec := { name := "fnDirect", fn := fun _ => fun
  | [d] => { results := [.lit (.bool false)], args := [d] }
  | _ => none }
def FnDirectWrongFalsely : Prop := fnDirectRow.holds Try.pinned (OpenSpec.ofChange fnDirectWrong)

/-- 'laws.FnRoadsAdd': WHATEVER THE INPUT: true; the input reads as it did. -/
def fnRoadsAddSpec : ChangeSpec := { name := "fnRoadsAdd", fn := fun _ => fun
  | [d1, d2] => { results := [.lit (.bool true)], args := [d1, d2] }
  | _ => none }
def fnRoadsAddRow : OpenClaim := { program := "ytpiknklaikcilaa", sum := "8d521221b318d38db0862bda69da8c81257a0790119b76c67e491de00b53a1bb", func := "loop.example/mailcoaches/laws.FnRoadsAdd", spec := "fnRoadsAdd", unfollowed := true, recurses := true, apart := false }
def FnRoadsAddSaid : Prop := fnRoadsAddRow.holds Try.pinned (OpenSpec.ofChange fnRoadsAddSpec)

/-- ITS FALSE NEIGHBOUR: 'it returns false'. Refute it at one input. -/
def fnRoadsAddWrong : ChangeSpec := { name := "fnRoadsAdd", fn := fun _ => fun
  | [d1, d2] => { results := [.lit (.bool false)], args := [d1, d2] }
  | _ => none }
def FnRoadsAddWrongFalsely : Prop := fnRoadsAddRow.holds Try.pinned (OpenSpec.ofChange fnRoadsAddWrong)

/-- 'laws.FnRoadsClose': WHATEVER THE INPUT: true; the input reads as it did. -/
def fnRoadsCloseSpec : ChangeSpec := { name := "fnRoadsClose", fn := fun _ => fun
  | [d] => { results := [.lit (.bool true)], args := [d] }
  | _ => none }
def fnRoadsCloseRow : OpenClaim := { program := "ytpiknklaikcilaa", sum := "8d521221b318d38db0862bda69da8c81257a0790119b76c67e491de00b53a1bb", func := "loop.example/mailcoaches/laws.FnRoadsClose", spec := "fnRoadsClose", unfollowed := true, recurses := true, apart := false }
def FnRoadsCloseSaid : Prop := fnRoadsCloseRow.holds Try.pinned (OpenSpec.ofChange fnRoadsCloseSpec)

/-- ITS FALSE NEIGHBOUR: 'it returns false'. Refute it at one input. -/
def fnRoadsCloseWrong : ChangeSpec := { name := "fnRoadsClose", fn := fun _ => fun
  | [d] => { results := [.lit (.bool false)], args := [d] }
  | _ => none }
def FnRoadsCloseWrongFalsely : Prop := fnRoadsCloseRow.holds Try.pinned (OpenSpec.ofChange fnRoadsCloseWrong)

/-- 'laws.FnMiddle': WHATEVER THE INPUT: true; the input reads as it did. -/
def fnMiddleSpec : ChangeSpec := { name := "fnMiddle", fn := fun _ => fun
  | [d] => { results := [.lit (.bool true)], args := [d] }
  | _ => none }
def fnMiddleRow : OpenClaim := { program := "ytpiknklaikcilaa", sum := "8d521221b318d38db0862bda69da8c81257a0790119b76c67e491de00b53a1bb", func := "loop.example/mailcoaches/laws.FnMiddle", spec := "fnMiddle", unfollowed := true, recurses := true, apart := false }
def FnMiddleSaid : Prop := fnMiddleRow.holds Try.pinned (OpenSpec.ofChange fnMiddleSpec)

/-- ITS FALSE NEIGHBOUR: 'it returns false'. Refute it at one input. -/
def fnMiddleWrong : ChangeSpec := { name := "fnMiddle", fn := fun _ => fun
  | [d] => { results := [.lit (.bool false)], args := [d] }
  | _ => none }
def FnMiddleWrongFalsely : Prop := fnMiddleRow.holds Try.pinned (OpenSpec.ofChange fnMiddleWrong)

/- THE SECOND FORM. 'bulk': how many values and letters a reading holds, each counted each time it is reached (what is shared counts as often as it is met; a slice's spare places count too). A statement '..UptoSaid' is the law's where the arguments, and the package variables that the reading takes, are together of bulk at most 1048576: NARROWER than '..Said'. Prove '..Said' where nothing that the law and all that it calls make is longer than what came in: it says more and counts as full. Else prove '..UptoSaid'. A law counts once. -/
mutual
def uptoBulk {H : Type} : DataW H → Nat
  | .lit (.string bytes) => bytes.length + 1
  | .lit _ => 1
  | .nil => 1
  | .ptr d => uptoBulk d + 1
  | .slice elems spare => uptoBulkAll elems + uptoBulkAll spare + 1
  | .agg parts => uptoBulkAll parts + 1
  | .iface _ d => uptoBulk d + 1
  | .map entries => uptoBulkEntries entries + 1
  | .held _ => 1
def uptoBulkAll {H : Type} : List (DataW H) → Nat
  | [] => 0
  | d :: r => uptoBulk d + uptoBulkAll r
def uptoBulkEntries {H : Type} : List (Lit × DataW H) → Nat
  | [] => 0
  | x :: r => uptoBulkEntry x + uptoBulkEntries r
def uptoBulkEntry {H : Type} : Lit × DataW H → Nat
  | (.string bytes, d) => bytes.length + uptoBulk d + 1
  | (_, d) => uptoBulk d + 1
 end
def uptoSmall : (H : Type) → List (DataW H) → Bool := fun _ ds => decide (uptoBulkAll ds ≤ 1048576)
def OpenSpec.upto (s : _root_.Go.ChangeSpec) : _root_.Go.OpenSpec := { _root_.Go.OpenSpec.ofChange s with cond := some uptoSmall }

/-- 'laws.FnExactRoadsNet', WHERE WHAT IT READS IS OF BULK AT MOST 1048576: true; the input reads as it did. -/
def fnExactRoadsNetUptoRow : OpenClaim := { program := "ytpiknklaikcilaa", sum := "8d521221b318d38db0862bda69da8c81257a0790119b76c67e491de00b53a1bb", func := "loop.example/mailcoaches/laws.FnExactRoadsNet", spec := "fnExactRoadsNet", unfollowed := true, recurses := true, apart := false, narrowed := true }
def FnExactRoadsNetUptoSaid : Prop := fnExactRoadsNetUptoRow.holds Try.pinned (OpenSpec.upto fnExactRoadsNetSpec)

/-- 'laws.FnExactWayLength', WHERE WHAT IT READS IS OF BULK AT MOST 1048576: true; the input reads as it did. -/
def fnExactWayLengthUptoRow : OpenClaim := { program := "ytpiknklaikcilaa", sum := "8d521221b318d38db0862bda69da8c81257a0790119b76c67e491de00b53a1bb", func := "loop.example/mailcoaches/laws.FnExactWayLength", spec := "fnExactWayLength", apart := false, narrowed := true }
def FnExactWayLengthUptoSaid : Prop := fnExactWayLengthUptoRow.holds Try.pinned (OpenSpec.upto fnExactWayLengthSpec)

/-- 'laws.FnExactRoadsFar', WHERE WHAT IT READS IS OF BULK AT MOST 1048576: true; the input reads as it did. -/
def fnExactRoadsFarUptoRow : OpenClaim := { program := "ytpiknklaikcilaa", sum := "8d521221b318d38db0862bda69da8c81257a0790119b76c67e491de00b53a1bb", func := "loop.example/mailcoaches/laws.FnExactRoadsFar", spec := "fnExactRoadsFar", unfollowed := true, recurses := true, apart := false, narrowed := true }
def FnExactRoadsFarUptoSaid : Prop := fnExactRoadsFarUptoRow.holds Try.pinned (OpenSpec.upto fnExactRoadsFarSpec)

/-- 'laws.FnExactRoadsNeeded', WHERE WHAT IT READS IS OF BULK AT MOST 1048576: true; the input reads as it did. -/
def fnExactRoadsNeededUptoRow : OpenClaim := { program := "ytpiknklaikcilaa", sum := "8d521221b318d38db0862bda69da8c81257a0790119b76c67e491de00b53a1bb", func := "loop.example/mailcoaches/laws.FnExactRoadsNeeded", spec := "fnExactRoadsNeeded", unfollowed := true, recurses := true, apart := false, narrowed := true }
def FnExactRoadsNeededUptoSaid : Prop := fnExactRoadsNeededUptoRow.holds Try.pinned (OpenSpec.upto fnExactRoadsNeededSpec)

/-- 'laws.FnExactRoadsMany', WHERE WHAT IT READS IS OF BULK AT MOST 1048576: true; the input reads as it did. -/
def fnExactRoadsManyUptoRow : OpenClaim := { program := "ytpiknklaikcilaa", sum := "8d521221b318d38db0862bda69da8c81257a0790119b76c67e491de00b53a1bb", func := "loop.example/mailcoaches/laws.FnExactRoadsMany", spec := "fnExactRoadsMany", unfollowed := true, recurses := true, apart := false, narrowed := true }
def FnExactRoadsManyUptoSaid : Prop := fnExactRoadsManyUptoRow.holds Try.pinned (OpenSpec.upto fnExactRoadsManySpec)

/-- 'laws.FnExactRoadsWay', WHERE WHAT IT READS IS OF BULK AT MOST 1048576: true; the input reads as it did. -/
def fnExactRoadsWayUptoRow : OpenClaim := { program := "ytpiknklaikcilaa", sum := "8d521221b318d38db0862bda69da8c81257a0790119b76c67e491de00b53a1bb", func := "loop.example/mailcoaches/laws.FnExactRoadsWay", spec := "fnExactRoadsWay", unfollowed := true, recurses := true, apart := false, narrowed := true }
def FnExactRoadsWayUptoSaid : Prop := fnExactRoadsWayUptoRow.holds Try.pinned (OpenSpec.upto fnExactRoadsWaySpec)

/-- 'laws.FnFar', WHERE WHAT IT READS IS OF BULK AT MOST 1048576: true; the input reads as it did. -/
def fnFarUptoRow : OpenClaim := { program := "ytpiknklaikcilaa", sum := "8d521221b318d38db0862bda69da8c81257a0790119b76c67e491de00b53a1bb", func := "loop.example/mailcoaches/laws.FnFar", spec := "fnFar", unfollowed := true, recurses := true, apart := false, narrowed := true }
def FnFarUptoSaid : Prop := fnFarUptoRow.holds Try.pinned (OpenSpec.upto fnFarSpec)

/-- 'laws.FnWay', WHERE WHAT IT READS IS OF BULK AT MOST 1048576: true; the input reads as it did. -/
def fnWayUptoRow : OpenClaim := { program := "ytpiknklaikcilaa", sum := "8d521221b318d38db0862bda69da8c81257a0790119b76c67e491de00b53a1bb", func := "loop.example/mailcoaches/laws.FnWay", spec := "fnWay", unfollowed := true, recurses := true, apart := false, narrowed := true }
def FnWayUptoSaid : Prop := fnWayUptoRow.holds Try.pinned (OpenSpec.upto fnWaySpec)

/-- 'laws.FnDirect', WHERE WHAT IT READS IS OF BULK AT MOST 1048576: true; the input reads as it did. -/
def fnDirectUptoRow : OpenClaim := { program := "ytpiknklaikcilaa", sum := "8d521221b318d38db0862bda69da8c81257a0790119b76c67e491de00b53a1bb", func := "loop.example/mailcoaches/laws.FnDirect", spec := "fnDirect", unfollowed := true, recurses := true, apart := false, narrowed := true }
def FnDirectUptoSaid : Prop := fnDirectUptoRow.holds Try.pinned (OpenSpec.upto fnDirectSpec)

/-- 'laws.FnRoadsAdd', WHERE WHAT IT READS IS OF BULK AT MOST 1048576: true; the input reads as it did. -/
def fnRoadsAddUptoRow : OpenClaim := { program := "ytpiknklaikcilaa", sum := "8d521221b318d38db0862bda69da8c81257a0790119b76c67e491de00b53a1bb", func := "loop.example/mailcoaches/laws.FnRoadsAdd", spec := "fnRoadsAdd", unfollowed := true, recurses := true, apart := false, narrowed := true }
def FnRoadsAddUptoSaid : Prop := fnRoadsAddUptoRow.holds Try.pinned (OpenSpec.upto fnRoadsAddSpec)

/-- 'laws.FnRoadsClose', WHERE WHAT IT READS IS OF BULK AT MOST 1048576: true; the input reads as it did. -/
def fnRoadsCloseUptoRow : OpenClaim := { program := "ytpiknklaikcilaa", sum := "8d521221b318d38db0862bda69da8c81257a0790119b76c67e491de00b53a1bb", func := "loop.example/mailcoaches/laws.FnRoadsClose", spec := "fnRoadsClose", unfollowed := true, recurses := true, apart := false, narrowed := true }
def FnRoadsCloseUptoSaid : Prop := fnRoadsCloseUptoRow.holds Try.pinned (OpenSpec.upto fnRoadsCloseSpec)

/-- 'laws.FnMiddle', WHERE WHAT IT READS IS OF BULK AT MOST 1048576: true; the input reads as it did. -/
def fnMiddleUptoRow : OpenClaim := { program := "ytpiknklaikcilaa", sum := "8d521221b318d38db0862bda69da8c81257a0790119b76c67e491de00b53a1bb", func := "loop.example/mailcoaches/laws.FnMiddle", spec := "fnMiddle", unfollowed := true, recurses := true, apart := false, narrowed := true }
def FnMiddleUptoSaid : Prop := fnMiddleUptoRow.holds Try.pinned (OpenSpec.upto fnMiddleSpec)

end Rows
end Go.Proofs.Ytpiknklaikcilaa

/- Walks: slices.Grow of nil, slices.Concat of two, PartsJoin of the program and of the reference. -/
import Derived.Test.YtfnpkbfgemcbaaaPa3
import Derived.Lib.AppendZeros
namespace Go.Proofs.Ytfnpkbfgemcbaaa
open Go.RowKit



/-- what PartsJoin returns -/
def joinOk (ps qs : List (Int × Int)) : Bool := partsValid ps && partsValid qs && partsValid (ps ++ qs)
def partsJoin (ps qs : List (Int × Int)) : List (Int × Int) := if joinOk ps qs = true then ps ++ qs else []
theorem partsJoin_le (ps qs : List (Int × Int)) (n m : Nat) (hl : ps.length = n) (hl' : qs.length = m) (h : n + m ≤ 1048576) : (partsJoin ps qs).length ≤ 1048576 := by
  unfold partsJoin; split
  · rw [List.length_append]; omega
  · simp


end Go.Proofs.Ytfnpkbfgemcbaaa

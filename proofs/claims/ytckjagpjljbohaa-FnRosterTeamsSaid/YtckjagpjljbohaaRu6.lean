/- Walks: slices.Clone of ints; RosterSwap of the program and of the reference. -/
import Derived.Test.YtckjagpjljbohaaRuLaw3
import Derived.Test.YtckjagpjljbohaaRu5
import Derived.WalkSpells
import Derived.Lib.LazyBuf
namespace Go.Proofs.Ytckjagpjljbohaa
open Go.RowKit

theorem info_intR : (Try.prog.info? 3).map (fun i => (i.zero, i.size, i.bytes)) = some (some (.int .i64 0), 1, 8) := by kernel_rfl

theorem swapIn_f {m : Nat} {f a b : Int} (h : swapIn m f a b = false) : f < 0 ∨ (m : Int) ≤ f ∨ a < 0 ∨ 12 ≤ a ∨ b < 0 ∨ 12 ≤ b := by
  simp only [swapIn, Bool.and_eq_false_iff, decide_eq_false_iff_not] at h
  omega
theorem swapIn_t {m : Nat} {f a b : Int} (h : swapIn m f a b = true) : (0 ≤ f ∧ f < m) ∧ (0 ≤ a ∧ a < 12) ∧ 0 ≤ b ∧ b < 12 := by
  simp only [swapIn, Bool.and_eq_true, decide_eq_true_eq] at h
  omega
theorem swapped_sub (ro : List Int) (f : Nat) (a b : Int) (q : Nat) (h : ro.length = q) : swapFrom ro f a b (q - f) = swapped ro f a b := by
  subst h; unfold swapped; rw [Int.toNat_natCast]


end Go.Proofs.Ytckjagpjljbohaa

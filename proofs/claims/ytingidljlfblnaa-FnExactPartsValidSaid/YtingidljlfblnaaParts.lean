/- The plain functions of parts: what both texts compute. -/
import Derived.Test.YtingidljlfblnaaBase
namespace Go.Proofs.Ytingidljlfblnaa
open Go.RowKit

def pOk (p : Int × Int) : Bool := decide (0 ≤ p.1) && decide (p.1 ≤ 5) && decide (1 ≤ p.2) && decide (p.2 ≤ 99)
def partsValid (ps : List (Int × Int)) : Bool := decide (1 ≤ ps.length) && decide (ps.length ≤ 12) && ps.all pOk
theorem pOk_true {ps : List (Int × Int)} {k : Nat} (h : pOk (ps.getD k (0, 0)) = true) : 0 ≤ a2 ps k ∧ a2 ps k ≤ 5 ∧ 1 ≤ b2 ps k ∧ b2 ps k ≤ 99 := by
  simp only [pOk, Bool.and_eq_true, decide_eq_true_eq] at h
  exact ⟨h.1.1.1, h.1.1.2, h.1.2, h.2⟩
theorem pOk_false {ps : List (Int × Int)} {k : Nat} (h : pOk (ps.getD k (0, 0)) = false) : a2 ps k < 0 ∨ 5 < a2 ps k ∨ b2 ps k < 1 ∨ 99 < b2 ps k := by
  simp only [pOk, Bool.and_eq_false_iff, decide_eq_false_iff_not] at h
  unfold a2 b2
  omega
theorem all_step {α : Type} (p : α → Bool) (xs : List α) (k : Nat) (d : α) (h : k < xs.length) : (xs.drop k).all p = (p (xs.getD k d) && (xs.drop (k + 1)).all p) := by
  rw [drop_at xs k d h, List.all_cons]
theorem partsValid_len {ps : List (Int × Int)} (h : partsValid ps = true) : 1 ≤ ps.length ∧ ps.length ≤ 12 := by
  simp only [partsValid, Bool.and_eq_true, decide_eq_true_eq] at h
  exact h.1
theorem partsValid_at {ps : List (Int × Int)} (h : partsValid ps = true) (k : Nat) (hk : k < ps.length) : 0 ≤ a2 ps k ∧ a2 ps k ≤ 5 ∧ 1 ≤ b2 ps k ∧ b2 ps k ≤ 99 := by
  simp only [partsValid, Bool.and_eq_true, List.all_eq_true] at h
  exact pOk_true (h.2 _ (by simp [hk]))
end Go.Proofs.Ytingidljlfblnaa

/- The plain functions of bookings: what both texts compute. -/
import Derived.Test.YtpcmkegogcffiaaParts
namespace Go.Proofs.Ytpcmkegogcffiaa
open Go.RowKit

/-- a booking of a coach of n legs -/
def bOk (n : Int) (b : Int × Int × Bool) : Bool := decide (0 ≤ b.1) && decide (b.1 < b.2.1) && decide (b.2.1 ≤ n)
/-- a booking of a kind on a leg -/
def onLeg (leg : Int) (ins : Bool) (b : Int × Int × Bool) : Bool := (b.2.2 == ins) && (decide (b.1 ≤ leg) && decide (leg < b.2.1))
/-- the number of bookings of a kind on a leg -/
def taken (ls : List (Int × Int × Bool)) (leg : Int) (ins : Bool) : Int := ls.foldr (fun b s => (if onLeg leg ins b = true then 1 else 0) + s) 0
theorem taken_step (ls : List (Int × Int × Bool)) (leg : Int) (ins : Bool) (k : Nat) (h : k < ls.length) :
    taken (ls.drop k) leg ins = (if onLeg leg ins (ls.getD k (0, 0, false)) = true then 1 else 0) + taken (ls.drop (k + 1)) leg ins := by
  rw [drop_at ls k (0, 0, false) h]; rfl
theorem taken_nil (leg : Int) (ins : Bool) : taken [] leg ins = 0 := rfl
theorem taken_cons (b : Int × Int × Bool) (ls : List (Int × Int × Bool)) (leg : Int) (ins : Bool) : taken (b :: ls) leg ins = (if onLeg leg ins b = true then 1 else 0) + taken ls leg ins := rfl
theorem taken_in (ls : List (Int × Int × Bool)) (leg : Int) (ins : Bool) : 0 ≤ taken ls leg ins ∧ taken ls leg ins ≤ ls.length := by
  induction ls with
  | nil => simp [taken]
  | cons b ls ih =>
    rw [taken_cons, List.length_cons]
    split <;> omega
theorem taken_append (xs ys : List (Int × Int × Bool)) (leg : Int) (ins : Bool) : taken (xs ++ ys) leg ins = taken xs leg ins + taken ys leg ins := by
  induction xs with
  | nil => simp [taken_nil]
  | cons b xs ih => rw [List.cons_append, taken_cons, taken_cons, ih]; omega
/-- no leg has too many -/
def legOk (ls : List (Int × Int × Bool)) (leg : Int) : Bool := decide (taken ls leg true ≤ 4) && decide (taken ls leg false ≤ 6)
/-- from leg k on no leg has too many -/
def legsOk (ls : List (Int × Int × Bool)) (n : Int) : Nat → Nat → Bool
  | 0, _ => true
  | f + 1, k => if (k : Int) < n then legOk ls k && legsOk ls n f (k + 1) else true
def bValid (n : Int) (ls : List (Int × Int × Bool)) : Bool := decide (1 ≤ n) && decide (n ≤ 7) && decide (ls.length ≤ 16) && ls.all (bOk n) && (List.range n.toNat).all fun k => legOk ls k
theorem bOk_true {n : Int} {ls : List (Int × Int × Bool)} {k : Nat} (h : bOk n (ls.getD k (0, 0, false)) = true) : 0 ≤ aB ls k ∧ aB ls k < bB ls k ∧ bB ls k ≤ n := by
  simp only [bOk, Bool.and_eq_true, decide_eq_true_eq] at h
  exact ⟨h.1.1, h.1.2, h.2⟩
theorem bOk_false {n : Int} {ls : List (Int × Int × Bool)} {k : Nat} (h : bOk n (ls.getD k (0, 0, false)) = false) : aB ls k < 0 ∨ bB ls k ≤ aB ls k ∨ n < bB ls k := by
  simp only [bOk, Bool.and_eq_false_iff, decide_eq_false_iff_not] at h
  unfold aB bB
  omega
theorem bOk_at (n : Int) (ls : List (Int × Int × Bool)) (k : Nat) : bOk n (ls.getD k (0, 0, false)) = bOk n (aB ls k, bB ls k, false) := rfl
/-- all bookings are of a coach of n legs -/
def AllB (n : Int) (ls : List (Int × Int × Bool)) : Prop := ∀ k, k < ls.length → 0 ≤ aB ls k ∧ aB ls k < bB ls k ∧ bB ls k ≤ n
theorem allB_of {n : Int} {ls : List (Int × Int × Bool)} (h : ls.all (bOk n) = true) : AllB n ls := fun k hk => by
  rw [List.all_eq_true] at h
  exact bOk_true (h _ (by simp [hk]))
theorem allB_all {n : Int} {ls : List (Int × Int × Bool)} (h : AllB n ls) : ls.all (bOk n) = true := by
  rw [List.all_eq_true]
  intro b hb
  obtain ⟨k, hk, rfl⟩ := List.mem_iff_getElem.1 hb
  have := h k hk
  unfold aB bB at this
  simp only [List.getD_eq_getElem?_getD, List.getElem?_eq_getElem hk, Option.getD_some] at this
  simp only [bOk, Bool.and_eq_true, decide_eq_true_eq]
  omega
theorem bValid_parts {n : Int} {ls : List (Int × Int × Bool)} (h : bValid n ls = true) : 1 ≤ n ∧ n ≤ 7 ∧ ls.length ≤ 16 ∧ AllB n ls ∧ ∀ k : Nat, (k : Int) < n → taken ls k true ≤ 4 ∧ taken ls k false ≤ 6 := by
  simp only [bValid, Bool.and_eq_true, decide_eq_true_eq] at h
  obtain ⟨⟨⟨⟨h1, h2⟩, h3⟩, h4⟩, h5⟩ := h
  refine ⟨h1, h2, h3, allB_of h4, fun k hk => ?_⟩
  rw [List.all_eq_true] at h5
  have := h5 k (by simp; omega)
  simpa [legOk] using this
theorem AllB.mono {n m : Int} {ls : List (Int × Int × Bool)} (h : AllB n ls) (hm : n ≤ m) : AllB m ls := fun k hk => by have := h k hk; omega
theorem bValid_n {n : Int} {ls : List (Int × Int × Bool)} (h : n < 1 ∨ 7 < n) : bValid n ls = false := by
  unfold bValid
  rcases h with h | h
  · rw [decide_eq_false (by omega)]; simp
  · rw [decide_eq_false (p := n ≤ 7) (by omega)]; simp
theorem bValid_len {n : Int} {ls : List (Int × Int × Bool)} (h : 16 < ls.length) : bValid n ls = false := by
  unfold bValid
  rw [decide_eq_false (p := ls.length ≤ 16) (by omega)]; simp
theorem bValid_all {n : Int} {ls : List (Int × Int × Bool)} (h : ls.all (bOk n) = false) : bValid n ls = false := by
  unfold bValid
  rw [h]; simp
theorem bValid_rest {n : Int} {ls : List (Int × Int × Bool)} (h1 : 1 ≤ n) (h2 : n ≤ 7) (h3 : ls.length ≤ 16) (h4 : ls.all (bOk n) = true) : bValid n ls = (List.range n.toNat).all fun k => legOk ls k := by
  unfold bValid
  rw [decide_eq_true h1, decide_eq_true h2, decide_eq_true h3, h4]; simp
/-- from leg k on -/
def fromLeg (ls : List (Int × Int × Bool)) (n k : Nat) : Bool := ((List.range n).drop k).all fun k => legOk ls k
theorem fromLeg_zero (ls : List (Int × Int × Bool)) (n : Nat) : fromLeg ls n 0 = (List.range n).all fun k => legOk ls k := rfl
theorem fromLeg_step (ls : List (Int × Int × Bool)) (n k : Nat) (h : k < n) : fromLeg ls n k = (legOk ls k && fromLeg ls n (k + 1)) := by
  unfold fromLeg
  rw [drop_at (List.range n) k 0 (by simpa using h), List.all_cons]
  congr 1
  simp [h]
theorem fromLeg_end (ls : List (Int × Int × Bool)) (n k : Nat) (h : n ≤ k) : fromLeg ls n k = true := by
  unfold fromLeg
  rw [List.drop_eq_nil_of_le (by simpa using h)]; rfl
end Go.Proofs.Ytpcmkegogcffiaa

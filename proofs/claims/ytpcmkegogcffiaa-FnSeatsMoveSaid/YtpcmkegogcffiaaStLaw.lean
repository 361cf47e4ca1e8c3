/- Plain laws of bookings: who gets on and off; the sum over all legs. No program is named here. -/
import Derived.Test.YtpcmkegogcffiaaSeat
namespace Go.Proofs.Ytpcmkegogcffiaa
open Go.RowKit

/-- who gets on at a stop, less who gets off -/
def evB (leg : Int) (b : Int × Int × Bool) : Int := (if b.1 = leg then 1 else 0) - (if b.2.1 = leg then 1 else 0)
def evSum (ls : List (Int × Int × Bool)) (leg : Int) : Int := ls.foldr (fun b s => evB leg b + s) 0
theorem evSum_step (ls : List (Int × Int × Bool)) (leg : Int) (k : Nat) (h : k < ls.length) : evSum (ls.drop k) leg = evB leg (aB ls k, bB ls k, cB ls k) + evSum (ls.drop (k + 1)) leg := by
  rw [drop_at ls k (0, 0, false) h]; rfl
def rideI (ls : List (Int × Int × Bool)) (leg : Int) : Int := taken ls leg true + taken ls leg false
theorem rideI_cons (b : Int × Int × Bool) (ls : List (Int × Int × Bool)) (leg : Int) : rideI (b :: ls) leg = (if b.1 ≤ leg ∧ leg < b.2.1 then 1 else 0) + rideI ls leg := by
  unfold rideI
  rw [taken_cons, taken_cons]
  obtain ⟨f, t, z⟩ := b
  cases z <;> simp [onLeg] <;> omega
theorem rideI_ev (ls : List (Int × Int × Bool)) (leg : Int) (h : ∀ b ∈ ls, b.1 < b.2.1) : rideI ls leg = rideI ls (leg - 1) + evSum ls leg := by
  induction ls with
  | nil => rfl
  | cons b ls ih =>
    have hb := h b (by simp)
    have := ih (fun c hc => h c (by simp [hc]))
    rw [rideI_cons, rideI_cons]
    show _ = _ + (evB leg b + evSum ls leg)
    unfold evB
    by_cases h1 : b.1 ≤ leg <;> by_cases h2 : leg < b.2.1 <;> by_cases h3 : b.1 ≤ leg - 1 <;> by_cases h4 : leg - 1 < b.2.1 <;> by_cases h5 : b.1 = leg <;> by_cases h6 : b.2.1 = leg <;> simp [h1, h2, h3, h4, h5, h6] <;> omega
theorem allB_mem {n : Int} {ls : List (Int × Int × Bool)} (h : AllB n ls) : ∀ b ∈ ls, 0 ≤ b.1 ∧ b.1 < b.2.1 ∧ b.2.1 ≤ n := by
  intro b hb
  obtain ⟨k, hk, rfl⟩ := List.mem_iff_getElem.1 hb
  have := h k hk
  unfold aB bB at this
  simp only [List.getD_eq_getElem?_getD, List.getElem?_eq_getElem hk, Option.getD_some] at this
  exact this
theorem rideI_before {n : Int} {ls : List (Int × Int × Bool)} (h : AllB n ls) : rideI ls (-1) = 0 := by
  have hm := allB_mem h
  clear h
  induction ls with
  | nil => rfl
  | cons b ls ih =>
    have hb := hm b (by simp)
    rw [rideI_cons, ih (fun c hc => hm c (by simp [hc])), if_neg (by omega)]
    rfl
theorem rideI_in (ls : List (Int × Int × Bool)) (leg : Int) : 0 ≤ rideI ls leg ∧ rideI ls leg ≤ 2 * ls.length := by
  have := taken_in ls leg true
  have := taken_in ls leg false
  unfold rideI
  omega
/-- the legs of all bookings of a kind, as far as leg k -/
def spanB (ins : Bool) (k : Int) (b : Int × Int × Bool) : Int := if b.2.2 = ins then min k b.2.1 - min k b.1 else 0
def spanTo (ls : List (Int × Int × Bool)) (ins : Bool) (k : Int) : Int := ls.foldr (fun b s => spanB ins k b + s) 0
theorem spanTo_step (ls : List (Int × Int × Bool)) (ins : Bool) (n : Int) (k : Nat) (h : k < ls.length) : spanTo (ls.drop k) ins n = spanB ins n (aB ls k, bB ls k, cB ls k) + spanTo (ls.drop (k + 1)) ins n := by
  rw [drop_at ls k (0, 0, false) h]; rfl
theorem spanTo_succ (ls : List (Int × Int × Bool)) (ins : Bool) (k : Int) (h : ∀ b ∈ ls, b.1 < b.2.1) : spanTo ls ins (k + 1) = spanTo ls ins k + taken ls k ins := by
  induction ls with
  | nil => rfl
  | cons b ls ih =>
    have hb := h b (by simp)
    have := ih (fun c hc => h c (by simp [hc]))
    rw [taken_cons]
    show spanB ins (k + 1) b + spanTo ls ins (k + 1) = spanB ins k b + spanTo ls ins k + _
    rw [this]
    obtain ⟨f, t, z⟩ := b
    simp only at hb
    unfold spanB onLeg
    by_cases hz : z = ins
    · subst hz
      simp only [if_true, BEq.rfl, Bool.true_and, Bool.and_eq_true, decide_eq_true_eq]
      split <;> omega
    · have : (z == ins) = false := by simpa using hz
      simp only [hz, if_false, this, Bool.false_and, Bool.false_eq_true]
      omega
theorem spanTo_zero (ls : List (Int × Int × Bool)) (ins : Bool) (h : ∀ b ∈ ls, 0 ≤ b.1 ∧ b.1 < b.2.1) : spanTo ls ins 0 = 0 := by
  induction ls with
  | nil => rfl
  | cons b ls ih =>
    have hb := h b (by simp)
    show spanB ins 0 b + spanTo ls ins 0 = 0
    rw [ih (fun c hc => h c (by simp [hc]))]
    unfold spanB
    split <;> omega
theorem sum1_append (xs ys : List Int) : sum1 (xs ++ ys) = sum1 xs + sum1 ys := by
  induction xs with
  | nil => simp [sum1]
  | cons x xs ih => simp only [sum1, List.cons_append, List.foldr_cons] at *; omega
theorem sum1_upto (f : Nat → Int) (k : Nat) : sum1 (upto f (k + 1)) = sum1 (upto f k) + f k := by rw [upto_succ, sum1_append]; simp [sum1]
theorem sum1_span (ls : List (Int × Int × Bool)) (ins : Bool) (h : ∀ b ∈ ls, 0 ≤ b.1 ∧ b.1 < b.2.1) (k : Nat) : sum1 (upto (fun j => taken ls j ins) k) = spanTo ls ins k := by
  induction k with
  | zero => rw [show ((0 : Nat) : Int) = 0 from rfl, spanTo_zero ls ins h]; rfl
  | succ k ih => rw [sum1_upto, ih, show ((k + 1 : Nat) : Int) = (k : Int) + 1 by omega, spanTo_succ ls ins k (fun b hb => (h b hb).2)]
theorem spanB_at {n x y : Int} {z : Bool} (ins : Bool) (h : 0 ≤ x ∧ x < y ∧ y ≤ n) : spanB ins n (x, y, z) = if z = ins then y - x else 0 := by
  unfold spanB
  simp only
  split <;> omega
end Go.Proofs.Ytpcmkegogcffiaa

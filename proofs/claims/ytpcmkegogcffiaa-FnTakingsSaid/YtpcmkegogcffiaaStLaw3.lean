/- Plain laws: what cancelling a booking takes from the takings. -/
import Derived.Test.YtpcmkegogcffiaaStLaw2
import Derived.Test.YtpcmkegogcffiaaSt14
import Derived.Test.YtpcmkegogcffiaaSt10
import Derived.Test.YtpcmkegogcffiaaSt6
namespace Go.Proofs.Ytpcmkegogcffiaa
open Go.RowKit

theorem taken_without (ls : List (Int × Int × Bool)) (k : Nat) (h : k < ls.length) (leg : Int) (ins : Bool) :
    taken ls leg ins = taken (without ls k) leg ins + (if onLeg leg ins (aB ls k, bB ls k, cB ls k) = true then 1 else 0) := by
  have e : ls = ls.take k ++ ls.drop k := (List.take_append_drop k ls).symm
  have h1 : taken ls leg ins = taken (ls.take k) leg ins + taken (ls.drop k) leg ins := by
    conv => lhs; rw [e]
    exact taken_append _ _ _ _
  have e2 : ls.getD k (0, 0, false) = (aB ls k, bB ls k, cB ls k) := rfl
  rw [h1, taken_step ls leg ins k h, without, taken_append, e2]
  generalize (if onLeg leg ins (aB ls k, bB ls k, cB ls k) = true then (1 : Int) else 0) = z
  omega
theorem bValid_without {n : Int} {ls : List (Int × Int × Bool)} {k : Nat} (hk : k < ls.length) (hv : bValid n ls = true) : bValid n (without ls k) = true := by
  obtain ⟨q1, q2, q3, q4, q5⟩ := bValid_parts hv
  refine bValid_mk q1 q2 ?_ ?_ ?_
  · rw [without_len ls k _ rfl hk]; omega
  · refine allB_of ?_
    have h := allB_all q4
    rw [List.all_eq_true] at h ⊢
    intro b hb
    rw [without, List.mem_append] at hb
    rcases hb with hb | hb
    · exact h b (List.mem_of_mem_take hb)
    · exact h b (List.mem_of_mem_drop hb)
  · intro j hj
    have t1 := taken_without ls k hk j true
    have t2 := taken_without ls k hk j false
    have := q5 j hj
    constructor
    · split at t1 <;> omega
    · split at t2 <;> omega
/-- what a stretch costs -/
def stretchDue (mi : List Int) (fare : Int) (f : Nat) : Nat → Int
  | 0 => 0
  | j + 1 => stretchDue mi fare f j + a1 mi (f + j) * fare
/-- what a stretch costs up to a leg -/
def coverDue (mi : List Int) (fare : Int) (f t : Nat) : Nat → Int
  | 0 => 0
  | j + 1 => coverDue mi fare f t j + (if f ≤ j ∧ j < t then a1 mi j * fare else 0)
theorem coverDue_at (mi : List Int) (fare : Int) (f t : Nat) (hft : f ≤ t) : ∀ n, coverDue mi fare f t n = stretchDue mi fare f (min n t - f) := by
  intro n
  induction n with
  | zero => rw [show min 0 t - f = 0 by omega]; rfl
  | succ n ih =>
    rw [coverDue, ih]
    by_cases h : f ≤ n ∧ n < t
    · rw [if_pos h, show min (n + 1) t - f = (min n t - f) + 1 by omega, stretchDue, show f + (min n t - f) = n by omega]
    · rw [if_neg h, show min (n + 1) t - f = min n t - f by omega, Int.add_zero]
theorem dueOf_without {ls : List (Int × Int × Bool)} {mi : List Int} {x y : Int} {k f t : Nat} (hk : k < ls.length) (ha : aB ls k = f) (hb : bB ls k = t) :
    ∀ n, dueOf ls mi x y n = dueOf (without ls k) mi x y n + coverDue mi (if cB ls k = true then x else y) f t n := by
  intro n
  induction n with
  | zero => rfl
  | succ n ih =>
    rw [dueOf, dueOf, coverDue, ih]
    have t1 := taken_without ls k hk n true
    have t2 := taken_without ls k hk n false
    rw [ha, hb, onLeg_is'] at t1 t2
    unfold legDue
    have key : a1 mi n * (x * taken ls n true + y * taken ls n false) = a1 mi n * (x * taken (without ls k) n true + y * taken (without ls k) n false) + (if f ≤ n ∧ n < t then a1 mi n * (if cB ls k = true then x else y) else 0) := by
      rw [t1, t2]
      by_cases hc : f ≤ n ∧ n < t
      · rw [if_pos hc, show decide ((f : Int) ≤ n) = true by simp; omega, show decide ((n : Int) < t) = true by simp; omega]
        cases cB ls k
        · simp [Int.mul_add]; omega
        · simp [Int.mul_add]; omega
      · rw [if_neg hc, show (decide ((f : Int) ≤ n) && decide ((n : Int) < t)) = false by simp; omega]
        simp
    rw [key]
    omega
theorem dueOf_one (ls : List (Int × Int × Bool)) (mi : List Int) (n : Nat) : dueOf ls mi 1 1 (n + 1) = dueOf ls mi 1 1 n + a1 mi n * rideAt ls n := by
  rw [dueOf, legDue, rideAt, Int.one_mul, Int.one_mul]
theorem dueOf_nil (mi : List Int) (x y : Int) : ∀ n, dueOf [] mi x y n = 0 := by
  intro n
  induction n with
  | zero => rfl
  | succ n ih => rw [dueOf, ih, legDue, taken_nil, taken_nil]; simp
theorem stretchDue_in {mi : List Int} {fare : Int} {f : Nat} (h0 : 0 ≤ fare) (h1 : fare ≤ 100) : ∀ j, (∀ i, i < j → 1 ≤ a1 mi (f + i) ∧ a1 mi (f + i) ≤ 99) → 0 ≤ stretchDue mi fare f j ∧ stretchDue mi fare f j ≤ 9900 * j := by
  intro j
  induction j with
  | zero => intro _; simp [stretchDue]
  | succ j ih =>
    intro h
    have e1 := ih (fun i hi => h i (by omega))
    have e2 := h j (by omega)
    have e3 := mulB (show 0 ≤ a1 mi (f + j) by omega) e2.2 h0 h1
    rw [stretchDue]
    omega
theorem seatsTakings_t {n : Nat} {ls : List (Int × Int × Bool)} {mi : List Int} {x y : Int} (hv : bValid n ls = true) (hl : mi.length = n) (hf : fareOk x y = true) (hm : mi.all mileOk = true) : seatsTakings n ls mi x y = dueOf ls mi x y n := by
  rw [seatsTakings, if_pos ⟨hv, by rw [hl], hf, hm⟩, hl]
theorem mile_in {mi : List Int} {k : Nat} (hm : mi.all mileOk = true) (h : k < mi.length) : 1 ≤ a1 mi k ∧ a1 mi k ≤ 99 := by
  rw [List.all_eq_true] at hm
  have := hm (mi.getD k 0) (by rw [List.getD_eq_getElem?_getD, List.getElem?_eq_getElem h]; exact List.getElem_mem h)
  exact mileOk_at this
end Go.Proofs.Ytpcmkegogcffiaa

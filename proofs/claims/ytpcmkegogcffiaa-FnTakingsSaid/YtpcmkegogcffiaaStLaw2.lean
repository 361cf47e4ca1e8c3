/- Plain laws of bookings, 2: what can be booked; free seats behind a booking. No program is named here. -/
import Derived.Test.YtpcmkegogcffiaaSt11
import Derived.Test.YtpcmkegogcffiaaSt8
namespace Go.Proofs.Ytpcmkegogcffiaa
open Go.RowKit

theorem bValid_mk {n : Int} {ls : List (Int × Int × Bool)} (h1 : 1 ≤ n) (h2 : n ≤ 7) (h3 : ls.length ≤ 16) (h4 : AllB n ls) (h5 : ∀ k : Nat, (k : Int) < n → taken ls k true ≤ 4 ∧ taken ls k false ≤ 6) : bValid n ls = true := by
  rw [bValid_rest h1 h2 h3 (allB_all h4), List.all_eq_true]
  intro k hk
  simp only [List.mem_range] at hk
  have := h5 k (by omega)
  simp [legOk, this.1, this.2]
theorem taken_snoc (ls : List (Int × Int × Bool)) (b : Int × Int × Bool) (leg : Int) (ins : Bool) : taken (ls ++ [b]) leg ins = taken ls leg ins + (if onLeg leg ins b = true then 1 else 0) := by
  rw [taken_append, taken_cons, taken_nil]; omega
theorem onLeg_is' (leg f t : Int) (k ins : Bool) : onLeg leg k (f, t, ins) = ((ins == k) && (decide (f ≤ leg) && decide (leg < t))) := rfl
theorem allB_snoc {n : Int} {ls : List (Int × Int × Bool)} {f t : Int} {z : Bool} (h : AllB n ls) (hb : bOk n (f, t, z) = true) : AllB n (ls ++ [(f, t, z)]) := by
  refine allB_of ?_
  rw [List.all_append, allB_all h]
  simp [hb]
theorem allB_left {n : Int} {ls rs : List (Int × Int × Bool)} (h : AllB n (ls ++ rs)) : AllB n ls := by
  have := allB_all h
  rw [List.all_append, Bool.and_eq_true] at this
  exact allB_of this.1
theorem bOk_kind (n f t : Int) (z z' : Bool) : bOk n (f, t, z) = bOk n (f, t, z') := rfl
theorem leastTo_le {ls : List (Int × Int × Bool)} {ins : Bool} {f : Nat} : ∀ (j i : Nat), i < j → leastTo ls ins f j ≤ seats ins - taken ls ((f + i : Nat) : Int) ins := by
  intro j
  induction j with
  | zero => intro i h; omega
  | succ j ih =>
    intro i h
    rw [leastTo]
    by_cases e : i = j
    · subst e; omega
    · have := ih i (by omega); omega
theorem leastTo_mono (ls : List (Int × Int × Bool)) (ins : Bool) (f : Nat) : ∀ (d j : Nat), leastTo ls ins f (j + d) ≤ leastTo ls ins f j := by
  intro d
  induction d with
  | zero => intro j; simp
  | succ d ih => intro j; have := ih j; rw [show j + (d + 1) = (j + d) + 1 by omega, leastTo]; omega
theorem leastTo_seats (ls : List (Int × Int × Bool)) (ins : Bool) (f j : Nat) : leastTo ls ins f j ≤ seats ins := by
  have := leastTo_mono ls ins f j 0
  rw [Nat.zero_add] at this
  exact this
theorem leastTo_get (ls : List (Int × Int × Bool)) (ins : Bool) (f : Nat) : ∀ j, leastTo ls ins f j = seats ins ∨ ∃ i, i < j ∧ leastTo ls ins f j = seats ins - taken ls ((f + i : Nat) : Int) ins := by
  intro j
  induction j with
  | zero => exact .inl rfl
  | succ j ih =>
    rw [leastTo]
    by_cases h : leastTo ls ins f j ≤ seats ins - taken ls ((f + j : Nat) : Int) ins
    · rw [Int.min_eq_left h]
      rcases ih with g | ⟨i, hi, g⟩
      · exact .inl g
      · exact .inr ⟨i, by omega, g⟩
    · rw [Int.min_eq_right (by omega)]
      exact .inr ⟨j, by omega, rfl⟩
theorem leastTo_pos {ls : List (Int × Int × Bool)} {ins : Bool} {f j : Nat} (h : ∀ i, i < j → taken ls ((f + i : Nat) : Int) ins < seats ins) : 0 < leastTo ls ins f j := by
  rcases leastTo_get ls ins f j with g | ⟨i, hi, g⟩
  · have := seats_in ins; omega
  · have := h i hi; omega
theorem seats_of {ls : List (Int × Int × Bool)} {n : Int} (h5 : ∀ k : Nat, (k : Int) < n → taken ls k true ≤ 4 ∧ taken ls k false ≤ 6) (ins : Bool) (k : Nat) (hk : (k : Int) < n) : taken ls k ins ≤ seats ins := by
  have := h5 k hk
  cases ins
  · exact this.2
  · exact this.1
theorem leastTo_nonneg {n : Int} {ls : List (Int × Int × Bool)} {ins : Bool} {f t : Nat} (hv : bValid n ls = true) (ht : (t : Int) ≤ n) : ∀ j, f + j ≤ t → 0 ≤ leastTo ls ins f j := by
  intro j hj
  obtain ⟨_, _, _, _, h5⟩ := bValid_parts hv
  rcases leastTo_get ls ins f j with g | ⟨i, hi, g⟩
  · have := seats_in ins; omega
  · have := seats_of h5 ins (f + i) (by omega); omega
/-- a booking can be had where a seat is free on all its legs -/
theorem bookOk_iff {n : Int} {ls : List (Int × Int × Bool)} {f t : Nat} {ins : Bool} (hv : bValid n ls = true) (hb : bOk n (f, t, false) = true) :
    bookOk n ls (f, t, ins) = (decide (0 < leastTo ls ins f (t - f)) && decide (ls.length < 16)) := by
  obtain ⟨h1, h2, h3, h4, h5⟩ := bValid_parts hv
  obtain ⟨o1, o2, o3⟩ := bOk_parts hb
  rw [Bool.eq_iff_iff]
  simp only [bookOk, hv, Bool.true_and, Bool.and_eq_true, decide_eq_true_eq]
  constructor
  · intro h
    obtain ⟨g1, g2, g3, g4, g5⟩ := bValid_parts h
    refine ⟨leastTo_pos (fun i hi => ?_), by simp at g3; omega⟩
    have := seats_of g5 ins (f + i) (by omega)
    have e : onLeg ((f + i : Nat) : Int) ins ((f : Int), (t : Int), ins) = true := by rw [onLeg_is']; simp; omega
    rw [taken_snoc, if_pos e] at this
    omega
  · rintro ⟨hp, hl⟩
    refine bValid_mk h1 h2 (by simp; omega) (allB_snoc h4 (by rw [bOk_kind n f t ins false]; exact hb)) (fun k hk => ?_)
    have hh := h5 k hk
    rw [taken_snoc, taken_snoc, onLeg_is', onLeg_is']
    by_cases hin : (f : Int) ≤ k ∧ (k : Int) < t
    · have := leastTo_le (ls := ls) (ins := ins) (f := f) (t - f) (k - f) (by omega)
      rw [show f + (k - f) = k by omega] at this
      cases ins
      · simp [seats] at *; omega
      · simp [seats] at *; omega
    · have : (decide ((f : Int) ≤ k) && decide ((k : Int) < t)) = false := by simp; omega
      rw [this]
      simp
      exact hh
theorem leastTo_book {ls : List (Int × Int × Bool)} {f t : Nat} {ins : Bool} : ∀ j, 1 ≤ j → f + j ≤ t → leastTo (ls ++ [((f : Int), (t : Int), ins)]) ins f j = leastTo ls ins f j - 1 := by
  intro j
  induction j with
  | zero => intro h; omega
  | succ j ih =>
    intro _ hj
    have ht : taken (ls ++ [((f : Int), (t : Int), ins)]) ((f + j : Nat) : Int) ins = taken ls ((f + j : Nat) : Int) ins + 1 := by
      rw [taken_snoc, onLeg_is', show (ins == ins) = true by simp, decide_eq_true (show (f : Int) ≤ ((f + j : Nat) : Int) by omega), decide_eq_true (show ((f + j : Nat) : Int) < (t : Int) by omega)]
      rfl
    rw [leastTo, leastTo, ht]
    by_cases h0 : j = 0
    · subst h0
      have := taken_in ls ((f + 0 : Nat) : Int) ins
      simp only [leastTo]
      omega
    · rw [ih (by omega) (by omega)]
      omega
end Go.Proofs.Ytpcmkegogcffiaa

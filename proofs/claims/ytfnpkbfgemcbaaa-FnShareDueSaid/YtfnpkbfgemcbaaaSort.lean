/- Walks: slices.Sort of at most twelve ints (it goes by insertion). -/
import Derived.Test.YtfnpkbfgemcbaaaProg
import Derived.Test.YtfnpkbfgemcbaaaBase
import Derived.BigRegion
import Derived.BigQuiet
import Derived.Deep.QuietTactic
import Derived.IntWalk
namespace Go.Proofs.Ytfnpkbfgemcbaaa
open Go.RowKit

/-- ascending up to k -/
def AscTo (ys : List Int) (k : Nat) : Prop := ∀ i j, i < j → j < k → a1 ys i ≤ a1 ys j
/-- ascending up to k, k too, but for what stands at j -/
def Almost (ys : List Int) (j k : Nat) : Prop := ∀ a b, a < b → b ≤ k → b ≠ j → a1 ys a ≤ a1 ys b
theorem almost_start {ys : List Int} {k : Nat} (h : AscTo ys k) : Almost ys k k := fun a b h1 h2 h3 => h a b h1 (by omega)
theorem almost_zero {ys : List Int} {k : Nat} (h : Almost ys 0 k) : AscTo ys (k + 1) := fun a b h1 h2 => h a b h1 (by omega) (by omega)
theorem almost_end {ys : List Int} {p k : Nat} (h : Almost ys (p + 1) k) (hle : a1 ys p ≤ a1 ys (p + 1)) : AscTo ys (k + 1) := fun a b h1 h2 => by
  by_cases hb : b = p + 1
  · subst hb
    by_cases ha : a = p
    · subst ha; exact hle
    · exact Int.le_trans (h a p (by omega) (by omega) (by omega)) hle
  · exact h a b h1 (by omega) hb
/-- two neighbors exchanged -/
def swapAt (ys : List Int) (p : Nat) : List Int := (ys.set (p + 1) (a1 ys p)).set p (a1 ys (p + 1))
theorem swapAt_len (ys : List Int) (p : Nat) : (swapAt ys p).length = ys.length := by simp [swapAt]
theorem swapAt_a (ys : List Int) (p i : Nat) (h : p + 1 < ys.length) : a1 (swapAt ys p) i = if i = p then a1 ys (p + 1) else if i = p + 1 then a1 ys p else a1 ys i := by
  unfold a1 swapAt
  simp only [List.getD_eq_getElem?_getD]
  by_cases h1 : i = p
  · subst h1
    rw [if_pos rfl, List.getElem?_set_self (by simp; omega)]; simp [a1]
  · rw [if_neg h1, List.getElem?_set_ne (by omega)]
    by_cases h2 : i = p + 1
    · subst h2
      rw [if_pos rfl, List.getElem?_set_self h]; simp [a1]
    · rw [if_neg h2, List.getElem?_set_ne (by omega)]
theorem swapAt_perm (ys : List Int) (p : Nat) (h : p + 1 < ys.length) : (swapAt ys p).Perm ys := by
  have := @List.set_set_perm _ ys (p + 1) p h (by omega)
  have e1 : a1 ys p = ys[p] := by simp [a1, show p < ys.length by omega]
  have e2 : a1 ys (p + 1) = ys[p + 1] := by simp [a1, h]
  unfold swapAt
  rw [e1, e2]
  exact this
theorem almost_swap {ys : List Int} {p k : Nat} (h : Almost ys (p + 1) k) (hlt : a1 ys (p + 1) < a1 ys p) (hp : p + 1 ≤ k) (hl : k < ys.length) : Almost (swapAt ys p) p k := fun a b h1 h2 h3 => by
  rw [swapAt_a ys p a (by omega), swapAt_a ys p b (by omega)]
  rw [if_neg h3]
  by_cases hb : b = p + 1
  · rw [if_pos hb]
    by_cases ha : a = p
    · rw [if_pos ha]; omega
    · rw [if_neg ha, if_neg (by omega)]
      exact h a p (by omega) (by omega) (by omega)
  · rw [if_neg hb]
    by_cases ha : a = p
    · rw [if_pos ha]; exact h (p + 1) b (by omega) h2 hb
    · rw [if_neg ha]
      by_cases ha2 : a = p + 1
      · rw [if_pos ha2]; exact h p b (by omega) h2 hb
      · rw [if_neg ha2]; exact h a b h1 h2 hb
/-- what a sorted slice is -/
def SortPost (w : World) (base t : Nat) (A : Option Addr) (n cap : Nat) (xs : List Int) (e : Ending) (w' : World) : Prop :=
  e = .returned (.tuple #[]) ∧ ∃ ys : List Int, ys.Perm xs ∧ AscTo ys n ∧ w'.ownsRow base t 1 (.slice A n cap) n (fl1 ys) ∧ w.grownBy w' (Value.slice A n cap).ownBlock
/-- two lists of the same numbers, both ascending, are one -/
theorem asc_eq {xs ys : List Int} (hp : xs.Perm ys) (hx : AscTo xs xs.length) (hy : AscTo ys ys.length) : xs = ys := by
  apply List.Perm.eq_of_pairwise (le := fun a b => a ≤ b) (fun a b _ _ h1 h2 => Int.le_antisymm h1 h2) _ _ hp
  · rw [List.pairwise_iff_getElem]
    intro i j hi hj hij
    have := hx i j hij hj
    simpa [a1, hi, hj] using this
  · rw [List.pairwise_iff_getElem]
    intro i j hi hj hij
    have := hy i j hij hj
    simpa [a1, hi, hj] using this

theorem only_drewN {a w : World} {row : Option Nat} (h : a.grownBy w row) (n : Nat) : a.grownBy (w.drewN n) row := ⟨h.os, h.tape, h.output, h.size, h.block⟩
theorem ownD {w : World} {base t size n : Nat} {v : Value} {xs : List Value} (h : w.ownsRow base t size v n xs) (k : Nat) : (w.drewN k).ownsRow base t size v n xs := h




end Go.Proofs.Ytfnpkbfgemcbaaa

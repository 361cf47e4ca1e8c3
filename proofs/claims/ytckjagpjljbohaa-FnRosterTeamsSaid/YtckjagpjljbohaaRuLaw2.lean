/- Plain laws: two teams that are exchanged. -/
import Derived.Test.YtckjagpjljbohaaRuLaw
namespace Go.Proofs.Ytckjagpjljbohaa
open Go.RowKit

/-- a team that is exchanged -/
def sw2 (a b x : Int) : Int := if x = a then b else if x = b then a else x
theorem sw2_sw2 (a b x : Int) : sw2 a b (sw2 a b x) = x := by
  unfold sw2
  by_cases h : x = a
  · subst h
    by_cases h2 : b = x
    · simp [h2]
    · simp [h2]
  · by_cases h2 : x = b
    · subst h2; simp [h]
    · simp [h, h2]
/-- the list whose d elements from an index on are exchanged -/
def swapFrom (ro : List Int) (f : Nat) (a b : Int) : Nat → List Int
  | 0 => ro
  | d + 1 => (swapFrom ro f a b d).set (f + d) (sw2 a b (a1 ro (f + d)))
theorem swapFrom_len (ro : List Int) (f : Nat) (a b : Int) : ∀ d, (swapFrom ro f a b d).length = ro.length := by
  intro d
  induction d with
  | zero => rfl
  | succ d ih => rw [swapFrom, List.length_set, ih]
theorem swapFrom_at (ro : List Int) (f : Nat) (a b : Int) (j : Nat) (hj : j < ro.length) : ∀ d, a1 (swapFrom ro f a b d) j = if f ≤ j ∧ j < f + d then sw2 a b (a1 ro j) else a1 ro j := by
  intro d
  induction d with
  | zero => rw [if_neg (by omega)]; rfl
  | succ d ih =>
    by_cases e : j = f + d
    · subst e
      rw [if_pos (by omega), swapFrom]
      unfold a1
      rw [List.getD_eq_getElem?_getD, List.getElem?_set_self (by rw [swapFrom_len]; exact hj)]
      rfl
    · have h1 : a1 (swapFrom ro f a b (d + 1)) j = a1 (swapFrom ro f a b d) j := by
        rw [swapFrom]
        unfold a1
        rw [List.getD_eq_getElem?_getD, List.getElem?_set_ne (fun h => e h.symm), ← List.getD_eq_getElem?_getD]
      rw [h1, ih]
      by_cases c : f ≤ j ∧ j < f + d
      · rw [if_pos c, if_pos (by omega)]
      · rw [if_neg c, if_neg (by omega)]
end Go.Proofs.Ytckjagpjljbohaa

/- Plain laws: the map of roads, road by road. No program is named here. -/
import Derived.Test.YtdnjeahbnidefaaRoFar
namespace Go.Proofs.Ytdnjeahbnidefaa

section
variable {rs : List (Int × Int × Int)} {k : Nat}
theorem hit_pair {x y t j : Int} (hxy : x < y) : (x = min t j ∧ y = max t j) ↔ (t = x ∧ j = y) ∨ (t = y ∧ j = x) := by omega
theorem edgeTo_neg (hc : ∀ j, j < k → 1 ≤ c3 rs j) (hxy : a3 rs k < b3 rs k) : freshTo rs k k = decide (edgeTo rs k (a3 rs k) (b3 rs k) < 0) := by
  have hh : ∀ j, hit rs (a3 rs k) (b3 rs k) j = (decide (a3 rs j = a3 rs k) && decide (b3 rs j = b3 rs k)) := fun j => by
    unfold hit
    rw [Int.min_eq_left (Int.le_of_lt hxy), Int.max_eq_right (Int.le_of_lt hxy)]
  unfold edgeTo
  rcases findTo_cases rs (a3 rs k) (b3 rs k) k with ⟨h1, h2⟩ | ⟨j, h1, h2, h3, h4⟩
  · rw [h1, if_neg (by omega), decide_eq_true (by omega), freshTo_iff]
    intro j hj hn
    have := h2 j hj
    rw [hh, decide_eq_true hn.1, decide_eq_true hn.2] at this
    cases this
  · rw [hh] at h3
    have := hc j h1
    rw [h2, if_pos (by omega), Int.toNat_natCast, decide_eq_false (by omega), freshTo_no h3 k h1]
theorem edgeTo_next (hf : freshTo rs k k = true) (hxy : a3 rs k < b3 rs k) (t j : Int) :
    edgeTo rs (k + 1) t j = if (t = a3 rs k ∧ j = b3 rs k) ∨ (t = b3 rs k ∧ j = a3 rs k) then c3 rs k else edgeTo rs k t j := by
  rw [freshTo_iff] at hf
  have hp := hit_pair (t := t) (j := j) hxy
  by_cases c : (t = a3 rs k ∧ j = b3 rs k) ∨ (t = b3 rs k ∧ j = a3 rs k)
  · rw [if_pos c]
    have h1 : hit rs t j k = true := by
      unfold hit
      rw [decide_eq_true (hp.2 c).1, decide_eq_true (hp.2 c).2]; rfl
    have h2 : findTo rs t j (k + 1) = (k : Int) := findTo_at (by omega) h1 (fun i hi => by
      cases hh : hit rs t j i
      · rfl
      · unfold hit at hh
        rw [Bool.and_eq_true, decide_eq_true_eq, decide_eq_true_eq] at hh
        exact absurd ⟨hh.1.trans (hp.2 c).1.symm, hh.2.trans (hp.2 c).2.symm⟩ (hf i hi))
    unfold edgeTo
    rw [h2, if_pos (by omega), Int.toNat_natCast]
  · rw [if_neg c]
    have h1 : hit rs t j k = false := by
      unfold hit
      by_cases e1 : a3 rs k = min t j
      · rw [decide_eq_false (fun e2 => c (hp.1 ⟨e1, e2⟩)), Bool.and_false]
      · rw [decide_eq_false e1, Bool.false_and]
    unfold edgeTo
    have : findTo rs t j (k + 1) = findTo rs t j k := by
      rw [findTo]
      by_cases e : 0 ≤ findTo rs t j k
      · rw [if_pos e]
      · rw [if_neg e, h1]
        rcases findTo_cases rs t j k with ⟨h2, _⟩ | ⟨i, _, h2, _⟩
        · rw [h2]; rfl
        · omega
    rw [this]
theorem roadsTo_c {n : Int} {m : Nat} (h : roadsTo n rs m = true) (j : Nat) (hj : j < m) : 1 ≤ c3 rs j := by
  rw [roadsTo_iff] at h
  have := h j hj
  rw [roadOne, Bool.and_eq_true] at this
  exact (roadIn_iff.1 this.1).2.2.2.1
end
end Go.Proofs.Ytdnjeahbnidefaa

/- Plain laws: exchanged teams, minutes of teams. -/
import Derived.Test.YtckjagpjljbohaaRuLaw2
namespace Go.Proofs.Ytckjagpjljbohaa
open Go.RowKit

/-- all from an index on are exchanged -/
def swapped (ro : List Int) (f a b : Int) : List Int := swapFrom ro f.toNat a b (ro.length - f.toNat)
theorem swapped_len (ro : List Int) (f a b : Int) : (swapped ro f a b).length = ro.length := swapFrom_len _ _ _ _ _
theorem swapped_at (ro : List Int) (f a b : Int) (j : Nat) (hj : j < ro.length) : a1 (swapped ro f a b) j = if f.toNat ≤ j then sw2 a b (a1 ro j) else a1 ro j := by
  unfold swapped
  rw [swapFrom_at _ _ _ _ _ hj]
  by_cases h : f.toNat ≤ j
  · rw [if_pos h, if_pos (by omega)]
  · rw [if_neg h, if_neg (by omega)]
theorem ext1 {xs ys : List Int} (hl : xs.length = ys.length) (h : ∀ k, k < xs.length → a1 xs k = a1 ys k) : xs = ys := by
  apply List.ext_getElem hl
  intro k h1 h2
  have := h k h1
  unfold a1 at this
  rw [List.getD_eq_getElem?_getD, List.getD_eq_getElem?_getD, List.getElem?_eq_getElem h1, List.getElem?_eq_getElem h2] at this
  exact this
theorem swapped_twice (ro : List Int) (f a b : Int) : swapped (swapped ro f a b) f a b = ro := by
  apply ext1
  · rw [swapped_len, swapped_len]
  · intro k hk
    rw [swapped_len, swapped_len] at hk
    rw [swapped_at _ _ _ _ _ (by rw [swapped_len]; exact hk), swapped_at _ _ _ _ _ hk]
    by_cases h : f.toNat ≤ k
    · rw [if_pos h, if_pos h, sw2_sw2]
    · rw [if_neg h, if_neg h]
theorem swapped_head (ro : List Int) (f a b : Int) (n : Nat) (hf : f = n) (hn : n ≤ ro.length) : (swapped ro f a b).take n = ro.take n := by
  apply ext1
  · rw [List.length_take, List.length_take, swapped_len]
  · intro k hk
    rw [List.length_take, swapped_len] at hk
    unfold a1
    rw [List.getD_eq_getElem?_getD, List.getD_eq_getElem?_getD, List.getElem?_take_of_lt (by omega), List.getElem?_take_of_lt (by omega), ← List.getD_eq_getElem?_getD, ← List.getD_eq_getElem?_getD]
    show a1 (swapped ro f a b) k = a1 ro k
    rw [swapped_at _ _ _ _ _ (by omega), if_neg (by omega)]
/-- what RosterSwap asks of its index and teams -/
def swapIn (m : Nat) (f a b : Int) : Bool := (decide (0 ≤ f) && decide (f ≤ (m : Int) - 1)) && ((decide (0 ≤ a) && decide (a ≤ 11)) && (decide (0 ≤ b) && decide (b ≤ 11)))
def swapOk (rs : List (Int × Int)) (rest : Int) (ro : List Int) (f a b : Int) : Bool := (rosterValid rs rest ro && swapIn rs.length f a b) && rosterValid rs rest (swapped ro f a b)
def rosterSwap (rs : List (Int × Int)) (rest : Int) (ro : List Int) (f a b : Int) : List Int := if swapOk rs rest ro f a b = true then swapped ro f a b else []
theorem swapOk_back {rs : List (Int × Int)} {rest : Int} {ro : List Int} {f a b : Int} (h : swapOk rs rest ro f a b = true) : swapOk rs rest (swapped ro f a b) f a b = true := by
  rw [swapOk, swapped_twice]
  rw [swapOk, Bool.and_eq_true, Bool.and_eq_true] at h
  rw [h.1.1, h.1.2, h.2]; rfl

/-- the minutes of each team -/
def minStep (rs : List (Int × Int)) (ro : List Int) (out : List Int) (k : Nat) : List Int := out.set (a1 ro k).toNat (a1 out (a1 ro k).toNat + (b2 rs k - a2 rs k))
def minTo (rs : List (Int × Int)) (ro : List Int) : Nat → List Int
  | 0 => List.replicate 12 0
  | k + 1 => minStep rs ro (minTo rs ro k) k
def minutes (rs : List (Int × Int)) (ro : List Int) : List Int := minTo rs ro ro.length
theorem minTo_len (rs : List (Int × Int)) (ro : List Int) : ∀ k, (minTo rs ro k).length = 12 := by
  intro k
  induction k with
  | zero => simp [minTo]
  | succ k ih => rw [minTo, minStep, List.length_set, ih]
/-- the minutes of one team -/
def minOf (rs : List (Int × Int)) (ro : List Int) (t : Nat) : Nat → Int
  | 0 => 0
  | k + 1 => minOf rs ro t k + (if a1 ro k = t then b2 rs k - a2 rs k else 0)
def minAll (rs : List (Int × Int)) : Nat → Int
  | 0 => 0
  | k + 1 => minAll rs k + (b2 rs k - a2 rs k)
theorem minTo_at (rs : List (Int × Int)) (ro : List Int) (t : Nat) (ht : t < 12) : ∀ k, (∀ j, j < k → 0 ≤ a1 ro j ∧ a1 ro j ≤ 11) → a1 (minTo rs ro k) t = minOf rs ro t k := by
  intro k
  induction k with
  | zero => intro _; unfold minTo minOf a1; rw [List.getD_eq_getElem?_getD, List.getElem?_replicate]; simp [ht]
  | succ k ih =>
    intro h
    have h1 := h k (by omega)
    have h2 := ih (fun j hj => h j (by omega))
    rw [minTo, minStep, minOf]
    by_cases e : a1 ro k = t
    · rw [if_pos e, e, Int.toNat_natCast, ← h2]
      unfold a1
      rw [List.getD_eq_getElem?_getD, List.getElem?_set_self (by rw [minTo_len]; exact ht)]; rfl
    · rw [if_neg e, ← h2, Int.add_zero]
      unfold a1
      rw [List.getD_eq_getElem?_getD, List.getElem?_set_ne (by unfold a1 at e h1; omega), ← List.getD_eq_getElem?_getD]
theorem minTo_sum (rs : List (Int × Int)) (ro : List Int) : ∀ k, (∀ j, j < k → 0 ≤ a1 ro j ∧ a1 ro j ≤ 11) → sum1 (minTo rs ro k) = minAll rs k := by
  intro k
  induction k with
  | zero => intro _; rfl
  | succ k ih =>
    intro h
    have h1 := h k (by omega)
    have h2 := ih (fun j hj => h j (by omega))
    rw [minTo, minStep, sum1_set _ _ _ (by rw [minTo_len]; omega), minAll, h2]
    unfold a1
    omega
/-- two teams that exchange runs have the same minutes together -/
theorem minOf_swap (rs : List (Int × Int)) (ro : List Int) (f : Int) (a b : Nat) : ∀ k, k ≤ ro.length → minOf rs (swapped ro f a b) a k + minOf rs (swapped ro f a b) b k = minOf rs ro a k + minOf rs ro b k := by
  intro k
  induction k with
  | zero => intro _; rfl
  | succ k ih =>
    intro hk
    have h := ih (by omega)
    rw [minOf, minOf, minOf, minOf, swapped_at _ _ _ _ _ (by omega)]
    by_cases c : f.toNat ≤ k
    · rw [if_pos c]
      unfold sw2
      by_cases e1 : a1 ro k = a
      · rw [if_pos e1, if_pos e1]
        by_cases e2 : (a : Int) = b
        · rw [if_pos e2.symm, if_pos rfl, if_pos (by rw [e1]; exact e2)]; omega
        · rw [if_neg (fun e => e2 e.symm), if_pos rfl, if_neg (by rw [e1]; exact e2)]; omega
      · rw [if_neg e1, if_neg e1]
        by_cases e2 : a1 ro k = b
        · rw [if_pos e2, if_pos e2, if_pos rfl, if_neg (by rw [← e2]; exact fun e => e1 e.symm)]; omega
        · rw [if_neg e2, if_neg e2, if_neg e1]; omega
    · rw [if_neg c]; omega
theorem rosterTo_in {rs : List (Int × Int)} {rest : Int} {ro : List Int} : ∀ n, rosterTo rs rest ro n = true → ∀ j, j < n → 0 ≤ a1 ro j ∧ a1 ro j ≤ 11 := by
  intro n
  induction n with
  | zero => intro _ j hj; omega
  | succ n ih =>
    intro h j hj
    rw [rosterTo, Bool.and_eq_true] at h
    by_cases e : j = n
    · subst e
      have := h.2
      rw [rosterOne, Bool.and_eq_true] at this
      simpa using this.1
    · exact ih h.1 j (by omega)
theorem rosterValid_in {rs : List (Int × Int)} {rest : Int} {ro : List Int} (h : rosterValid rs rest ro = true) : runsRest rs rest = true ∧ ro.length = rs.length ∧ ∀ j, j < ro.length → 0 ≤ a1 ro j ∧ a1 ro j ≤ 11 := by
  rw [rosterValid, Bool.and_eq_true, Bool.and_eq_true, decide_eq_true_eq] at h
  exact ⟨h.1, h.2.1, rosterTo_in _ h.2.2⟩
theorem minOf_ge {rs : List (Int × Int)} {rest : Int} (h : runsRest rs rest = true) (ro : List Int) (t : Nat) : ∀ k, k ≤ rs.length → 0 ≤ minOf rs ro t k ∧ minOf rs ro t k ≤ 10000 * k := by
  intro k
  obtain ⟨_, _, hin⟩ := runsRest_in h
  induction k with
  | zero => intro _; simp [minOf]
  | succ k ih =>
    intro hk
    have h1 := ih (by omega)
    obtain ⟨g1, g2, g3⟩ := hin k (by omega)
    rw [minOf]
    split <;> omega
end Go.Proofs.Ytckjagpjljbohaa

/- The plain functions of parts: what both texts compute. -/
import Derived.Test.YtingidljlfblnaaBase
namespace Go.Proofs.Ytingidljlfblnaa
open Go.RowKit

def pOk (p : Int × Int) : Bool := decide (0 ≤ p.1) && decide (p.1 ≤ 5) && decide (1 ≤ p.2) && decide (p.2 ≤ 99)
def partsValid (ps : List (Int × Int)) : Bool := decide (1 ≤ ps.length) && decide (ps.length ≤ 12) && ps.all pOk
theorem pOk_true {ps : List (Int × Int)} {k : Nat} (h : pOk (ps.getD k (0, 0)) = true) : 0 ≤ a2 ps k ∧ a2 ps k ≤ 5 ∧ 1 ≤ b2 ps k ∧ b2 ps k ≤ 99 := by
  simp only [pOk, Bool.and_eq_true, decide_eq_true_eq] at h
  exact ⟨h.1.1.1, h.1.1.2, h.1.2, h.2⟩
theorem pOk_false {ps : List (Int × Int)} {k : Nat} (h : pOk (ps.getD k (0, 0)) = false) : a2 ps k < 0 ∨ 5 < a2 ps k ∨ b2 ps k < 1 ∨ 99 < b2 ps k := by
  simp only [pOk, Bool.and_eq_false_iff, decide_eq_false_iff_not] at h
  unfold a2 b2
  omega
theorem all_step {α : Type} (p : α → Bool) (xs : List α) (k : Nat) (d : α) (h : k < xs.length) : (xs.drop k).all p = (p (xs.getD k d) && (xs.drop (k + 1)).all p) := by
  rw [drop_at xs k d h, List.all_cons]
theorem partsValid_len {ps : List (Int × Int)} (h : partsValid ps = true) : 1 ≤ ps.length ∧ ps.length ≤ 12 := by
  simp only [partsValid, Bool.and_eq_true, decide_eq_true_eq] at h
  exact h.1
theorem partsValid_at {ps : List (Int × Int)} (h : partsValid ps = true) (k : Nat) (hk : k < ps.length) : 0 ≤ a2 ps k ∧ a2 ps k ≤ 5 ∧ 1 ≤ b2 ps k ∧ b2 ps k ≤ 99 := by
  simp only [partsValid, Bool.and_eq_true, List.all_eq_true] at h
  exact pOk_true (h.2 _ (by simp [hk]))

/-- the sum of all Miles -/
def sumB (ps : List (Int × Int)) : Int := ps.foldr (fun p s => p.2 + s) 0
def partsLength (ps : List (Int × Int)) : Int := if partsValid ps = true then sumB ps else -1
theorem sumB_step (ps : List (Int × Int)) (k : Nat) (h : k < ps.length) : sumB (ps.drop k) = b2 ps k + sumB (ps.drop (k + 1)) := by
  rw [drop_at ps k (0, 0) h]; rfl
/-- the miles of each proprietor -/
def milesStep (out : List Int) (p : Int × Int) : List Int := out.set p.1.toNat (out.getD p.1.toNat 0 + p.2)
def miles (ps : List (Int × Int)) : List Int := ps.foldl milesStep (List.replicate 6 0)
theorem milesStep_len (out : List Int) (p : Int × Int) : (milesStep out p).length = out.length := by simp [milesStep]
theorem miles_len (ps : List (Int × Int)) : (miles ps).length = 6 := by
  have : ∀ (qs : List (Int × Int)) (out : List Int), (qs.foldl milesStep out).length = out.length := by
    intro qs
    induction qs with
    | nil => intro out; rfl
    | cons q qs ih => intro out; rw [List.foldl_cons, ih, milesStep_len]
  exact this ps _
theorem miles_step (ps : List (Int × Int)) (out : List Int) (k : Nat) (h : k < ps.length) : (ps.drop k).foldl milesStep out = (ps.drop (k + 1)).foldl milesStep (milesStep out (a2 ps k, b2 ps k)) := by
  rw [drop_at ps k (0, 0) h, List.foldl_cons]; rfl
/-- the sum of a list -/
def sum1 (xs : List Int) : Int := xs.foldr (fun x s => x + s) 0
theorem sum1_step (xs : List Int) (k : Nat) (h : k < xs.length) : sum1 (xs.drop k) = a1 xs k + sum1 (xs.drop (k + 1)) := by
  rw [drop_at xs k 0 h]; rfl
theorem sum1_set (xs : List Int) : ∀ (k : Nat) (v : Int), k < xs.length → sum1 (xs.set k v) = sum1 xs - xs.getD k 0 + v := by
  induction xs with
  | nil => intro k v h; simp at h
  | cons x xs ih =>
    intro k v h
    cases k with
    | zero => simp [sum1]; omega
    | succ k =>
      have := ih k v (by simpa using h)
      simp only [List.set_cons_succ, List.getD_cons_succ, sum1, List.foldr_cons] at this ⊢

      omega
theorem sum1_fold (ps : List (Int × Int)) : ∀ (out : List Int), out.length = 6 → (∀ p ∈ ps, pOk p = true) → sum1 (ps.foldl milesStep out) = sum1 out + sumB ps := by
  induction ps with
  | nil => intro out _ _; simp [sumB]
  | cons p ps ih =>
    intro out hl hp
    have hp0 := hp p (by simp)
    simp only [pOk, Bool.and_eq_true, decide_eq_true_eq] at hp0
    rw [List.foldl_cons, ih _ (by rw [milesStep_len, hl]) (fun q hq => hp q (by simp [hq])), milesStep, sum1_set _ _ _ (by omega)]
    simp only [sumB, List.foldr_cons]
    omega
theorem sum1_miles {ps : List (Int × Int)} (h : partsValid ps = true) : sum1 (miles ps) = sumB ps := by
  simp only [partsValid, Bool.and_eq_true, List.all_eq_true] at h
  rw [miles, sum1_fold ps _ (by simp) h.2]
  show sum1 [0, 0, 0, 0, 0, 0] + _ = _
  simp [sum1]
/-- all numbers of a list lie in a range -/
def InR (lo hi : Int) (xs : List Int) : Prop := ∀ k, k < xs.length → lo ≤ a1 xs k ∧ a1 xs k ≤ hi
theorem InR.set {lo hi hi' : Int} {xs : List Int} (h : InR lo hi xs) (hh : hi ≤ hi') {k : Nat} {v : Int} (h1 : lo ≤ v) (h2 : v ≤ hi') : InR lo hi' (xs.set k v) := by
  intro j hj
  simp only [List.length_set] at hj
  have := h j hj
  unfold a1 at *
  by_cases hk : k = j
  · subst hk
    simp [hj]
    omega
  · simp [List.getElem?_set_ne hk] at *
    omega
theorem InR.zero (n : Nat) : InR 0 0 (List.replicate n 0) := by
  intro j hj
  unfold a1
  rw [List.getD_eq_getElem?_getD, List.getElem?_replicate]
  split <;> simp
theorem miles_in' (qs : List (Int × Int)) : ∀ (out : List Int) (M : Int), (∀ q ∈ qs, pOk q = true) → InR 0 M out → InR 0 (M + 99 * qs.length) (qs.foldl milesStep out) := by
  induction qs with
  | nil => intro out M _ h; simpa using h
  | cons q qs ih =>
    intro out M hq h
    have hp0 := hq q (by simp)
    simp only [pOk, Bool.and_eq_true, decide_eq_true_eq] at hp0
    rw [List.foldl_cons]
    have := ih (milesStep out q) (M + 99) (fun r hr => hq r (by simp [hr])) (by
      by_cases hl : q.1.toNat < out.length
      · have hk := h _ hl
        unfold a1 at hk
        exact InR.set h (by omega) (by omega) (by omega)
      · unfold milesStep
        rw [List.set_eq_of_length_le (by omega)]
        exact fun k hk => ⟨(h k hk).1, by have := (h k hk).2; omega⟩)
    intro k hk
    have h2 := this k hk
    refine ⟨h2.1, ?_⟩
    have h3 := h2.2
    simp only [List.length_cons]
    omega
theorem miles_in {ps : List (Int × Int)} (h : partsValid ps = true) : InR (-2000) 2000 (miles ps) := by
  have hl := partsValid_len h
  simp only [partsValid, Bool.and_eq_true, List.all_eq_true] at h
  have := miles_in' ps (List.replicate 6 0) 0 h.2 (InR.zero 6)
  intro k hk
  have h2 := this k hk
  have h3 := h2.1
  have h4 := h2.2
  unfold miles
  omega
end Go.Proofs.Ytingidljlfblnaa

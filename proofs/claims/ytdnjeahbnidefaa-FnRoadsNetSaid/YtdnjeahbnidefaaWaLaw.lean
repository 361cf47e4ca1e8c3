/- Plain law of FnWay. -/
import Derived.Test.YtdnjeahbnidefaaGA
import Derived.Test.YtdnjeahbnidefaaRo5
namespace Go.Proofs.Ytdnjeahbnidefaa
open Go.RowKit

def sumTo (f : Nat → Int) : Nat → Int
  | 0 => 0
  | k + 1 => sumTo f k + f k
theorem sumTo_congr {f g : Nat → Int} : ∀ k, (∀ i, i < k → f i = g i) → sumTo f k = sumTo g k := by
  intro k
  induction k with
  | zero => intro _; rfl
  | succ k ih => intro h; rw [sumTo, sumTo, ih (fun i hi => h i (by omega)), h k (by omega)]
theorem sumTo_add (f : Nat → Int) (a : Nat) : ∀ b, sumTo f (a + b) = sumTo f a + sumTo (fun i => f (a + i)) b := by
  intro b
  induction b with
  | zero => simp [sumTo]
  | succ b ih => rw [show a + (b + 1) = (a + b) + 1 by omega, sumTo, sumTo, ih]; omega
theorem sumTo_first (f : Nat → Int) (k : Nat) : sumTo f (k + 1) = f 0 + sumTo (fun i => f (i + 1)) k := by
  have h := sumTo_add f 1 k
  rw [Nat.add_comm 1 k] at h
  rw [h]
  have : sumTo f 1 = f 0 := by simp [sumTo]
  rw [this]
  congr 1
  exact sumTo_congr k (fun i _ => by rw [Nat.add_comm])
theorem sumTo_rev : ∀ (k : Nat) (f : Nat → Int), sumTo (fun i => f (k - 1 - i)) k = sumTo f k := by
  intro k
  induction k with
  | zero => intro _; rfl
  | succ k ih =>
    intro f
    rw [sumTo_first, sumTo]
    have e : sumTo (fun i => f (k + 1 - 1 - (i + 1))) k = sumTo f k := by
      rw [← ih f]
      exact sumTo_congr k (fun i _ => by congr 1; omega)
    show f (k + 1 - 1 - 0) + _ = _
    rw [e, show k + 1 - 1 - 0 = k by omega]
    omega
/-- the miles of a way's parts -/
def part (rs : List (Int × Int × Int)) (ws : List Int) (i : Nat) : Int := edge rs (a1 ws i) (a1 ws (i + 1))
theorem waySum_eq (rs : List (Int × Int × Int)) (ws : List Int) : ∀ k, waySum rs ws (k + 1) = sumTo (part rs ws) k := by
  intro k
  induction k with
  | zero => simp [waySum, sumTo]
  | succ k ih =>
    rw [waySum, ih, sumTo, if_neg (by omega)]
    rfl
section
variable {n : Nat} {rs : List (Int × Int × Int)} {ws : List Int}
/-- what a way is -/
def IsWay (n : Nat) (rs : List (Int × Int × Int)) (ws : List Int) : Prop := 1 ≤ ws.length ∧ (0 ≤ a1 ws 0 ∧ a1 ws 0 < n) ∧ ∀ i, i + 1 < ws.length → 0 ≤ part rs ws i
theorem wayOk_iff (h : RV n rs) : wayOk n rs ws = true ↔ IsWay n rs ws := by
  unfold wayOk
  rw [roadsValid_of h, Bool.true_and, Bool.and_eq_true, decide_eq_true_eq, wayTo_iff]
  constructor
  · rintro ⟨h1, h2⟩
    refine ⟨h1, ?_, fun i hi => ?_⟩
    · have := h2 0 (by omega)
      rw [wayOne_first] at this
      simp only [Bool.and_eq_true, decide_eq_true_eq] at this
      omega
    · have := h2 (i + 1) hi
      rw [h.wayOne_next (by omega), decide_eq_true_eq] at this
      exact this
  · rintro ⟨h1, h2, h3⟩
    refine ⟨h1, fun j hj => ?_⟩
    cases j with
    | zero => rw [wayOne_first]; simp only [Bool.and_eq_true, decide_eq_true_eq]; omega
    | succ i => rw [h.wayOne_next (by omega), decide_eq_true_eq]; exact h3 i hj
theorem wayLength_ge {n : Int} (h : 0 ≤ wayLength n rs ws) : ∃ m : Nat, n = m ∧ RV m rs ∧ IsWay m rs ws ∧ wayLength n rs ws = sumTo (part rs ws) (ws.length - 1) := by
  cases hv : roadsValid n rs
  · rw [wayLength, if_neg (by unfold wayOk; rw [hv]; simp)] at h
    omega
  obtain ⟨m, rfl, hrv⟩ := roadsValid_t hv
  by_cases hok : wayOk m rs ws = true
  · have hw := (wayOk_iff hrv).1 hok
    refine ⟨m, rfl, hrv, hw, ?_⟩
    rw [wayLength, if_pos hok]
    obtain ⟨k, hk⟩ : ∃ k, ws.length = k + 1 := ⟨ws.length - 1, by have := hw.1; omega⟩
    rw [hk, waySum_eq]
    rfl
  · rw [wayLength, if_neg hok] at h
    omega
theorem wayLength_of (h : RV n rs) (hw : IsWay n rs ws) : wayLength n rs ws = sumTo (part rs ws) (ws.length - 1) := by
  rw [wayLength, if_pos ((wayOk_iff h).2 hw)]
  obtain ⟨k, hk⟩ : ∃ k, ws.length = k + 1 := ⟨ws.length - 1, by have := hw.1; omega⟩
  rw [hk, waySum_eq]
  rfl
theorem IsWay.town (h : RV n rs) (hw : IsWay n rs ws) {i : Nat} (hi : i < ws.length) : 0 ≤ a1 ws i ∧ a1 ws i < n := by
  cases i with
  | zero => exact hw.2.1
  | succ i =>
    have := hw.2.2 i hi
    unfold part at this
    have := h.edge_pos this
    omega
theorem a1_take (k i : Nat) (h : i < k) : a1 (ws.take k) i = a1 ws i := by
  unfold a1
  rw [List.getD_eq_getElem?_getD, List.getD_eq_getElem?_getD, List.getElem?_take_of_lt h]
theorem a1_drop (k i : Nat) : a1 (ws.drop k) i = a1 ws (k + i) := by
  unfold a1
  rw [List.getD_eq_getElem?_getD, List.getD_eq_getElem?_getD, List.getElem?_drop]
theorem a1_rev (i : Nat) (h : i < ws.length) : a1 ws.reverse i = a1 ws (ws.length - 1 - i) := by
  unfold a1
  rw [List.getD_eq_getElem?_getD, List.getD_eq_getElem?_getD, List.getElem?_reverse h]
theorem IsWay.take (hw : IsWay n rs ws) {k : Nat} (hk : k < ws.length) : IsWay n rs (ws.take (k + 1)) := by
  have hl : (ws.take (k + 1)).length = k + 1 := by rw [List.length_take]; omega
  refine ⟨by omega, by rw [a1_take _ _ (by omega)]; exact hw.2.1, fun i hi => ?_⟩
  unfold part
  rw [a1_take _ _ (by omega), a1_take _ _ (by omega)]
  exact hw.2.2 i (by omega)
theorem IsWay.drop (h : RV n rs) (hw : IsWay n rs ws) {k : Nat} (hk : k < ws.length) : IsWay n rs (ws.drop k) := by
  have hl : (ws.drop k).length = ws.length - k := by rw [List.length_drop]
  refine ⟨by omega, by rw [a1_drop]; exact hw.town h (by omega), fun i hi => ?_⟩
  unfold part
  rw [a1_drop, a1_drop]
  exact hw.2.2 (k + i) (by omega)
theorem IsWay.rev (h : RV n rs) (hw : IsWay n rs ws) : IsWay n rs ws.reverse := by
  have hl : ws.reverse.length = ws.length := by rw [List.length_reverse]
  have h1 := hw.1
  refine ⟨by omega, by rw [a1_rev _ (by omega)]; exact hw.town h (by omega), fun i hi => ?_⟩
  unfold part
  rw [a1_rev _ (by omega), a1_rev _ (by omega), edge_comm]
  have := hw.2.2 (ws.length - 1 - (i + 1)) (by omega)
  unfold part at this
  rw [show ws.length - 1 - (i + 1) + 1 = ws.length - 1 - i by omega] at this
  exact this
theorem part_rev (i : Nat) (h : i + 1 < ws.length) : part rs ws.reverse i = part rs ws (ws.length - 1 - 1 - i) := by
  unfold part
  rw [a1_rev _ (by omega), a1_rev _ (by omega), edge_comm, show ws.length - 1 - 1 - i = ws.length - 1 - (i + 1) by omega, show ws.length - 1 - (i + 1) + 1 = ws.length - 1 - i by omega]
/-- a way is a walk -/
theorem IsWay.walk (h : RV n rs) (hw : IsWay n rs ws) : ∀ k, k < ws.length → Wk (eN rs) n k (a1 ws 0).toNat (a1 ws k).toNat (sumTo (part rs ws) k) := by
  intro k
  induction k with
  | zero => intro _; have := hw.2.1; exact .nil (by omega)
  | succ k ih =>
    intro hk
    have t0 := hw.town h (i := k) (by omega)
    have t1 := hw.town h hk
    have hp := hw.2.2 k hk
    have he : eN rs (a1 ws k).toNat (a1 ws (k + 1)).toNat = part rs ws k := by
      unfold eN part
      rw [Int.toNat_of_nonneg t0.1, Int.toNat_of_nonneg t1.1]
    have hp1 := h.edge_pos (show 0 ≤ edge rs (a1 ws k) (a1 ws (k + 1)) from hp)
    have := (ih (by omega)).append (Wk.one (e := eN rs) (n := n) (a := (a1 ws k).toNat) (b := (a1 ws (k + 1)).toNat) (by omega) (by omega) (by rw [he]; exact hp1.1))
    rw [he] at this
    exact this
/-- the law of FnWay -/
theorem way_law (h : RV n rs) (hw : IsWay n rs ws) {k : Nat} (hk : k < ws.length) :
    wayLength n rs ws.reverse = wayLength n rs ws ∧ wayLength n rs (ws.take (k + 1)) + wayLength n rs (ws.drop k) = wayLength n rs ws ∧ (0 ≤ roadsFar n rs (a1 ws 0) (a1 ws (ws.length - 1)) ∧ roadsFar n rs (a1 ws 0) (a1 ws (ws.length - 1)) ≤ wayLength n rs ws) := by
  have h1 := hw.1
  rw [wayLength_of h hw]
  refine ⟨?_, ?_, ?_⟩
  · rw [wayLength_of h (hw.rev h), List.length_reverse, ← sumTo_rev (ws.length - 1) (part rs ws)]
    exact sumTo_congr _ (fun i hi => part_rev i (by omega))
  · have hl : (ws.take (k + 1)).length = k + 1 := by rw [List.length_take]; omega
    rw [wayLength_of h (hw.take hk), wayLength_of h (hw.drop h hk), hl, List.length_drop, Nat.add_sub_cancel]
    obtain ⟨j, hj⟩ : ∃ j, ws.length - 1 = k + j := ⟨ws.length - 1 - k, by omega⟩
    rw [hj, sumTo_add, show ws.length - k - 1 = j by omega]
    congr 1
    · exact sumTo_congr _ (fun i hi => by unfold part; rw [a1_take _ _ (by omega), a1_take _ _ (by omega)])
    · exact sumTo_congr _ (fun i hi => by unfold part; rw [a1_drop, a1_drop]; rfl)
  · have wk := hw.walk h (ws.length - 1) (by omega)
    have t0 := hw.town h (i := 0) (by omega)
    have t1 := hw.town h (i := ws.length - 1) (by omega)
    have e : roadsFar n rs (a1 ws 0) (a1 ws (ws.length - 1)) = dist n rs (a1 ws 0).toNat (a1 ws (ws.length - 1)).toNat := by
      have := roadsFar_in (n := n) (rs := rs) (a := (a1 ws 0).toNat) (b := (a1 ws (ws.length - 1)).toNat) (roadsValid_of h) (by omega) (by omega)
      rw [Int.toNat_of_nonneg t0.1, Int.toNat_of_nonneg t1.1] at this
      exact this
    rw [e]
    have h0 := (h.dist_ge_iff wk.lt_l wk.lt_r).2 ⟨_, _, wk⟩
    exact ⟨h0, (h.dist_is wk.lt_l wk.lt_r h0).2 _ _ wk⟩
end
end Go.Proofs.Ytdnjeahbnidefaa

/- Plain laws of FnRoadsLength: a road as a way, the net's miles. No program is named here. -/
import Derived.Test.YtdnjeahbnidefaaRoLen
import Derived.Test.YtdnjeahbnidefaaRoMany
import Derived.Test.YtdnjeahbnidefaaRoOrd
import Derived.Test.YtdnjeahbnidefaaMnLaw
namespace Go.Proofs.Ytdnjeahbnidefaa
open Go.RowKit
section
variable {n : Nat} {rs : List (Int × Int × Int)}
theorem RV.way_one (h : RV n rs) {k : Nat} (hk : k < rs.length) : wayLength n rs [a3 rs k, b3 rs k] = c3 rs k := by
  obtain ⟨r1, r2, r3, r4, r5⟩ := h.road k hk
  have hp : part rs [a3 rs k, b3 rs k] 0 = c3 rs k := h.edge_road hk
  have hw : IsWay n rs [a3 rs k, b3 rs k] := by
    refine ⟨by simp, ?_, fun i hi => ?_⟩
    · show 0 ≤ a3 rs k ∧ a3 rs k < n
      omega
    · obtain rfl : i = 0 := by simp at hi; omega
      rw [hp]; omega
  rw [wayLength_of h hw]
  show sumTo _ 1 = _
  rw [sumTo, sumTo, hp, Int.zero_add]
theorem sumTo_le {f g : Nat → Int} (n : Nat) (h : ∀ v, v < n → f v ≤ g v) : sumTo f n ≤ sumTo g n := by
  induction n with
  | zero => exact Int.le_refl _
  | succ n ih =>
    have := ih (fun v hv => h v (by omega))
    have := h n (by omega)
    rw [sumTo, sumTo]
    omega
theorem sumC_sumTo (rs : List (Int × Int × Int)) : ∀ k, k ≤ rs.length → sumTo (c3 rs) k + sumC (rs.drop k) = sumC rs := by
  intro k
  induction k with
  | zero => intro _; simp [sumTo]
  | succ k ih =>
    intro hk
    have := ih (by omega)
    rw [sumC_step rs k (by omega)] at this
    rw [sumTo]
    omega
/-- the miles of the first j roads of the net -/
def netSum (rs : List (Int × Int × Int)) (Z : List Int) (j : Nat) : Int := sumTo (fun i => c3 rs (a1 Z i).toNat) j
theorem RV.net_sum (h : RV n rs) (hw : whole n rs = true) : (∀ j, j < (roadsNet n rs).length → ∃ i : Nat, a1 (roadsNet n rs) j = i ∧ i < rs.length) ∧ netSum rs (roadsNet n rs) (roadsNet n rs).length ≤ sumC rs := by
  rw [roadsNet_t hw, castL_len]
  constructor
  · intro j hj
    rw [castL_at]
    refine ⟨_, rfl, ?_⟩
    have hm : (netL n rs).getD j 0 ∈ netL n rs := by
      rw [List.getD_eq_getElem?_getD, List.getElem?_eq_getElem hj]
      exact List.getElem_mem hj
    exact List.mem_range.1 (List.mem_filter.1 hm).1
  · have e : netSum rs (castL (netL n rs)) (netL n rs).length = sumL (c3 rs) (netL n rs) := by
      unfold netSum
      rw [← sumL_idx]
      exact sumTo_congr _ (fun i _ => by rw [castL_at]; rfl)
    rw [e]
    unfold netL
    rw [← sumL_filter]
    have h1 := sumC_sumTo rs rs.length (Nat.le_refl _)
    rw [List.drop_eq_nil_of_le (Nat.le_refl _)] at h1
    have h2 : sumC ([] : List (Int × Int × Int)) = 0 := rfl
    have h3 : sumTo (fun v => if decide (v ∈ netT n rs) = true then c3 rs v else 0) rs.length ≤ sumTo (c3 rs) rs.length := sumTo_le _ (fun v hv => by
      have := (h.road v hv).2.2.2.1
      split <;> omega)
    omega
theorem RV.net_sum_in (h : RV n rs) {Z : List Int} (hZ : ∀ j, j < Z.length → ∃ i : Nat, a1 Z j = i ∧ i < rs.length) : ∀ j, j ≤ Z.length → 0 ≤ netSum rs Z j ∧ netSum rs Z j ≤ 99 * j := by
  intro j
  induction j with
  | zero => intro _; simp [netSum, sumTo]
  | succ j ih =>
    intro hj
    have h1 := ih (by omega)
    obtain ⟨i, e, hi⟩ := hZ j (by omega)
    have h2 := h.road i hi
    unfold netSum at h1 ⊢
    rw [sumTo, e, Int.toNat_natCast]
    push_cast
    omega
end
end Go.Proofs.Ytdnjeahbnidefaa

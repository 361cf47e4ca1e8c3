/- Plain laws of FnRoadsWay: the shortest way is one, and goes on as its rest. No program is named here. -/
import Derived.Test.YtdnjeahbnidefaaRoShort
import Derived.Test.YtdnjeahbnidefaaWaLaw
namespace Go.Proofs.Ytdnjeahbnidefaa
open Go.RowKit
section
variable {n : Nat} {rs : List (Int × Int × Int)}
/-- each town of the way is nearer to the end -/
theorem RV.way_near (h : RV n rs) {a b : Nat} (hb : b < n) (ha : a < n) (h0 : 0 ≤ dist n rs b a) : ∀ (j i : Nat), i < j → j < (wayTown n rs a b).length → dist n rs b ((wayTown n rs a b).getD j 0) < dist n rs b ((wayTown n rs a b).getD i 0) := by
  obtain ⟨_, _, _, w4, w5, _⟩ := h.wayN_is hb (dist n rs b a).toNat a ha h0 (Nat.le_refl _)
  intro j
  induction j with
  | zero => intro i hi _; omega
  | succ j ih =>
    intro i hi hj
    obtain ⟨g1, g2⟩ := w4 j (Nat.lt_of_succ_lt hj)
    have g3 := (h.nx_less hb g1 g2 (w5 j hj)).2.2.1
    by_cases e : i = j
    · subst e; exact g3
    · exact Int.lt_trans g3 (ih i (by omega) (by omega))
theorem RV.way_part (h : RV n rs) {a b : Nat} (hb : b < n) (ha : a < n) (h0 : 0 ≤ dist n rs b a) {i : Nat} (hi : i + 1 < (wayTown n rs a b).length) : part rs (castL (wayTown n rs a b)) i = dist n rs b ((wayTown n rs a b).getD i 0) - dist n rs b ((wayTown n rs a b).getD (i + 1) 0) ∧ 1 ≤ part rs (castL (wayTown n rs a b)) i := by
  obtain ⟨_, _, _, w4, w5, _⟩ := h.wayN_is hb (dist n rs b a).toNat a ha h0 (Nat.le_refl _)
  obtain ⟨g1, g2⟩ := nx_iff.1 (w5 i hi)
  unfold part
  rw [castL_at, castL_at]
  unfold eN at g1 g2
  unfold wayTown
  omega
/-- what RoadsWay's law asks -/
theorem RV.way_law (h : RV n rs) {a b : Nat} (hb : b < n) (ha : a < n) (h0 : 0 ≤ dist n rs b a) : ∃ W : List Int, roadsWay n rs a b = W ∧ 1 ≤ W.length ∧ W.length ≤ 801 ∧ a1 W 0 = a ∧ a1 W (W.length - 1) = b ∧ (∀ i, i < W.length → 0 ≤ a1 W i ∧ a1 W i < n) ∧ (∀ i j, i < j → j < W.length → a1 W i ≠ a1 W j) ∧ wayLength n rs W = roadsFar n rs a b ∧ (W.length = 1 → a = b) ∧ (2 ≤ W.length → ∃ c : Nat, a1 W 1 = c ∧ c < n ∧ roadsWay n rs c b = W.drop 1 ∧ 0 ≤ roadsFar n rs c b) := by
  have hv := roadsValid_of h
  have hab : roadsFar n rs a b = dist n rs b a := by rw [roadsFar_in hv ha hb, h.dist_comm ha hb]
  obtain ⟨w1, w2, w3, w4, w5, w6⟩ := h.wayN_is hb (dist n rs b a).toNat a ha h0 (Nat.le_refl _)
  have hl := (h.wayTown_len hb ha h0).2
  have hsum : ∀ k, k < (wayTown n rs a b).length → sumTo (part rs (castL (wayTown n rs a b))) k = dist n rs b a - dist n rs b ((wayTown n rs a b).getD k 0) := by
    intro k
    induction k with
    | zero =>
      intro _
      rw [sumTo]
      unfold wayTown
      rw [w2]
      omega
    | succ k ih =>
      intro hk
      rw [sumTo, ih (by omega), (h.way_part hb ha h0 hk).1]
      omega
  have hway : IsWay n rs (castL (wayTown n rs a b)) := by
    refine ⟨by rw [castL_len]; exact w1, ?_, fun i hi => ?_⟩
    · rw [castL_at]
      have := (w4 0 w1).1
      unfold wayTown
      omega
    · rw [castL_len] at hi
      have := (h.way_part hb ha h0 hi).2
      omega
  refine ⟨castL (wayTown n rs a b), roadsWay_t (by omega), by rw [castL_len]; exact w1, by rw [castL_len]; exact hl, ?_, ?_, ?_, ?_, ?_, ?_, ?_⟩
  · rw [castL_at]; unfold wayTown; rw [w2]
  · rw [castL_len, castL_at]; unfold wayTown; rw [w3]
  · intro i hi
    rw [castL_len] at hi
    rw [castL_at]
    have := (w4 i hi).1
    unfold wayTown
    omega
  · intro i j hij hj e
    rw [castL_len] at hj
    rw [castL_at, castL_at] at e
    have := h.way_near hb ha h0 j i hij hj
    rw [show (wayTown n rs a b).getD i 0 = (wayTown n rs a b).getD j 0 by omega] at this
    omega
  · rw [wayLength_of h hway, castL_len, hsum _ (by unfold wayTown; omega), hab]
    have : (wayTown n rs a b).getD ((wayTown n rs a b).length - 1) 0 = b := w3
    rw [this, h.dist_self hb]
    omega
  · intro e
    rw [castL_len] at e
    unfold wayTown at e
    rw [e] at w3
    exact w2.symm.trans w3
  · intro e
    rw [castL_len] at e
    have hne : a ≠ b := by
      intro q
      subst q
      unfold wayTown at e
      rw [wayN_end] at e
      simp at e
    obtain ⟨f, hf⟩ := h.fuel_pos hb ha h0 (Nat.le_refl _) hne
    obtain ⟨f1, f2, _⟩ := h.first_at hb ha h0 hne
    obtain ⟨_, g1, g2, _⟩ := h.nx_less hb ha h0 f2
    have hW : wayTown n rs a b = a :: wayTown n rs (first n rs b a) b := by
      unfold wayTown
      rw [hf, wayN_step hne, h.wayN_fuel hb f (dist n rs b (first n rs b a)).toNat _ f1 g1 (by omega) (Nat.le_refl _)]
    have hfar : roadsFar n rs (first n rs b a) b = dist n rs b (first n rs b a) := by rw [roadsFar_in hv f1 hb, h.dist_comm f1 hb]
    refine ⟨first n rs b a, ?_, f1, ?_, by omega⟩
    · rw [castL_at, hW, getD_cons_succ']
      obtain ⟨_, v2, _⟩ := h.wayN_is hb (dist n rs b (first n rs b a)).toNat _ f1 g1 (Nat.le_refl _)
      unfold wayTown
      rw [v2]
    · rw [roadsWay_t (by omega), hW]
      rfl
end
end Go.Proofs.Ytdnjeahbnidefaa

/- Plain law of FnDirect. -/
import Derived.Test.YtpiknklaikcilaaRo9
import Derived.Test.YtpiknklaikcilaaRoWayLen
namespace Go.Proofs.Ytpiknklaikcilaa
open Go.RowKit

theorem direct_law {n : Nat} {rs : List (Int × Int × Int)} (h : RV n rs) {s t : Nat} (hs : s < n) (ht : t < n) (he : 0 ≤ edge rs s t) :
    edge rs t s = edge rs s t ∧ dist n rs s t ≤ edge rs s t ∧ 1 ≤ dist n rs s t ∧ edge rs s t ≤ 99 ∧ roadsValid n (rs ++ [(min (s : Int) t, max (s : Int) t, 1)]) = false ∧ wayLength n rs [(s : Int), (t : Int)] = edge rs s t := by
  obtain ⟨e1, e2, s0, s1, t0, t1, hst⟩ := h.edge_pos he
  have hw := Wk.one (e := eN rs) hs ht e1
  have hge := (h.dist_ge_iff hs ht).2 ⟨_, _, hw⟩
  have hD := h.dist_is hs ht hge
  refine ⟨edge_comm _ _ _, hD.2 _ _ hw, ?_, e2, ?_, ?_⟩
  · refine Int.not_lt.1 fun hlt => ?_
    obtain ⟨⟨k, wk⟩, _⟩ := hD
    have := (wk.zero (by omega)).2.1
    omega
  · cases hv : roadsValid n (rs ++ [(min (s : Int) t, max (s : Int) t, 1)])
    · rfl
    obtain ⟨m, e, g⟩ := roadsValid_t hv
    rcases edge_cases rs s t with ⟨h1, _, _⟩ | ⟨j, h1, _, h3, _⟩
    · omega
    have hg := g.apart j rs.length h1 (by simp)
    rw [hit_iff] at h3
    refine absurd ?_ hg
    unfold a3 b3 at h3 ⊢
    rw [getD_left h1, h3.1, h3.2]
    simp [List.getD_eq_getElem?_getD]
  · have hv := roadsValid_of h
    have l0 : a1 [(s : Int), (t : Int)] 0 = s := rfl
    have l1 : a1 [(s : Int), (t : Int)] 1 = t := rfl
    have ok : wayOk n rs [(s : Int), (t : Int)] = true := by
      have w0 : wayOne n rs [(s : Int), (t : Int)] 0 = true := by
        unfold wayOne
        rw [l0, decide_eq_true s0, decide_eq_true (show (s : Int) ≤ (n : Int) - 1 by omega)]
        rfl
      have w1 : wayOne n rs [(s : Int), (t : Int)] 1 = true := by
        unfold wayOne
        rw [show 1 - 1 = 0 from rfl, l0, l1, decide_eq_true t0, decide_eq_true (show (t : Int) ≤ (n : Int) - 1 by omega), decide_eq_true he]
        rfl
      unfold wayOk
      rw [hv]
      show ((true && decide (1 ≤ 2)) && wayTo n rs [(s : Int), (t : Int)] 2) = true
      rw [wayTo, wayTo, wayTo, w0, w1]
      rfl
    rw [wayLength, if_pos ok]
    show waySum rs [(s : Int), (t : Int)] 2 = _
    simp [waySum, l0, l1]
end Go.Proofs.Ytpiknklaikcilaa

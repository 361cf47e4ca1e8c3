/- Plain laws of FnWhole: whole roads less one road, the number of roads. -/
import Derived.Test.YtdnjeahbnidefaaRoOrd
import Derived.Test.YtdnjeahbnidefaaRoCl
namespace Go.Proofs.Ytdnjeahbnidefaa
open Go.RowKit
section
variable {n : Nat} {rs : List (Int × Int × Int)}
theorem RV.needed_iff (h : RV n rs) {k : Nat} (hk : k < rs.length) : (k : Int) ∈ needed n rs ↔ ¬ Cn (eN (lessR rs k)) n (tA rs k) (tB rs k) := by
  have hv := roadsValid_of h
  obtain ⟨e1, e2, h1, h2, _⟩ := h.towns hk
  have e : needed n rs = neededTo n rs rs.length := by rw [needed, hv]; rfl
  rw [e, mem_neededTo]
  constructor
  · rintro ⟨i, hi, _, hn⟩
    obtain rfl : k = i := by omega
    exact ((h.without hk).dist_neg_iff h1 h2).1 (of_decide_eq_true hn)
  · intro hn
    exact ⟨k, rfl, hk, decide_eq_true (((h.without hk).dist_neg_iff h1 h2).2 hn)⟩
theorem RV.without_cn (h : RV n rs) (hc : AllCn (eN rs) n) {k : Nat} (hk : k < rs.length) (hn : Cn (eN (lessR rs k)) n (tA rs k) (tB rs k)) : AllCn (eN (lessR rs k)) n := fun u v hu hv => (hc u v hu hv).reroute (fun a b ha hb hab => by
  obtain ⟨e1, e2, h1, h2, _⟩ := h.towns hk
  obtain ⟨r, hr, hj⟩ := h.edge_iff.1 hab
  by_cases e : r = rs.getD k (0, 0, 0)
  · subst e
    have hj2 : ((a : Int) = a3 rs k ∧ (b : Int) = b3 rs k) ∨ ((a : Int) = b3 rs k ∧ (b : Int) = a3 rs k) := by
      unfold joins at hj
      unfold a3 b3
      omega
    rcases hj2 with ⟨g1, g2⟩ | ⟨g1, g2⟩
    · obtain rfl : a = tA rs k := by omega
      obtain rfl : b = tB rs k := by omega
      exact hn
    · obtain rfl : a = tB rs k := by omega
      obtain rfl : b = tA rs k := by omega
      exact hn.symm (eN_comm _)
  · exact .one ha hb ((h.without hk).edge_iff.2 ⟨r, (h.mem_without hk).2 ⟨hr, e⟩, hj⟩))
theorem RV.whole_without (h : RV n rs) (hc : AllCn (eN rs) n) {k : Nat} (hk : k < rs.length) : whole n (lessR rs k) = !decide ((k : Int) ∈ needed n rs) := by
  by_cases hn : Cn (eN (lessR rs k)) n (tA rs k) (tB rs k)
  · rw [(h.without hk).whole_of (h.without_cn hc hk hn), decide_eq_false (fun g => (h.needed_iff hk).1 g hn)]
    rfl
  · rw [decide_eq_true ((h.needed_iff hk).2 hn)]
    cases hw : whole n (lessR rs k)
    · rfl
    · obtain ⟨m, hm, _, hcn⟩ := whole_t hw
      obtain rfl : n = m := by omega
      obtain ⟨_, _, h1, h2, _⟩ := h.towns hk
      exact absurd (hcn _ _ h1 h2) hn
/-- whole roads are n - 1 at least -/
theorem RV.whole_len (h : RV n rs) (hc : AllCn (eN rs) n) : n - 1 ≤ rs.length := by
  have hT : IsIdx rs (List.range rs.length) := ⟨List.nodup_range, fun i hi => List.mem_range.1 hi⟩
  have hp : pick3 rs (List.range rs.length) = rs := by
    apply List.ext_getElem?
    intro i
    by_cases hi : i < rs.length
    · simp [pick3, hi]
    · rw [List.getElem?_eq_none (by simp [pick3]; omega), List.getElem?_eq_none (by omega)]
  have := h.many_roads hT (by unfold eT; rw [hp]; exact hc)
  simpa using this
/-- a road's own end points: the road between them is that road -/
theorem RV.close_at (h : RV n rs) {k : Nat} (hk : k < rs.length) : 0 ≤ direct n rs (a3 rs k) (b3 rs k) ∧ roadsClose n rs (a3 rs k) (b3 rs k) = lessR rs k := by
  have hm : rs.getD k (0, 0, 0) ∈ rs := mem3.2 ⟨k, hk, rfl⟩
  obtain ⟨g0, g1, g2, g3, g4⟩ := h.road k hk
  have hj : joins (rs.getD k (0, 0, 0)) (a3 rs k) (b3 rs k) := by
    unfold joins
    rw [get3]
    simp only
    omega
  have he := h.edge_mem hm hj
  have hd : direct n rs (a3 rs k) (b3 rs k) = edge rs (a3 rs k) (b3 rs k) := by rw [direct, if_pos (roadsValid_of h)]
  have h0 : 0 ≤ direct n rs (a3 rs k) (b3 rs k) := by rw [hd]; omega
  refine ⟨h0, ?_⟩
  rcases edge_cases rs (a3 rs k) (b3 rs k) with ⟨e, _⟩ | ⟨j, hjl, hf, hh, _⟩
  · omega
  · have : j = k := h.hit_one hjl hk hh (hit_iff.2 ⟨by omega, by omega⟩)
    rw [← this]
    rw [this] at hf
    rw [this]
    exact roadsClose_t h0 hf
end
end Go.Proofs.Ytdnjeahbnidefaa

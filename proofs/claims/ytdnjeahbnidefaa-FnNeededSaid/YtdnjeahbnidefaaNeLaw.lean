/- Plain laws of FnNeeded: a needed road is the one shortest way of its towns, and it is in the net. No program is named here. -/
import Derived.Test.YtdnjeahbnidefaaWhLaw
import Derived.Test.YtdnjeahbnidefaaRoMany
namespace Go.Proofs.Ytdnjeahbnidefaa
open Go.RowKit
section
variable {n : Nat} {rs : List (Int × Int × Int)}
/-- a road that is not the k-th one is left when that one is closed -/
theorem RV.left_edge (h : RV n rs) {k : Nat} (hk : k < rs.length) {x y : Nat} (he : 1 ≤ eN rs x y) (hne : ¬ (x = tA rs k ∧ y = tB rs k)) (hne2 : ¬ (x = tB rs k ∧ y = tA rs k)) : 1 ≤ eN (lessR rs k) x y := by
  obtain ⟨r, hr, hj⟩ := h.edge_iff.1 he
  obtain ⟨e1, e2, _, _, _⟩ := h.towns hk
  refine (h.without hk).edge_iff.2 ⟨r, (h.mem_without hk).2 ⟨hr, fun e => ?_⟩, hj⟩
  subst e
  unfold joins at hj
  rw [get3] at hj
  simp only at hj
  rcases Nat.le_total x y with c | c
  · exact hne ⟨by omega, by omega⟩
  · exact hne2 ⟨by omega, by omega⟩
/-- a nearer town is joined without the road -/
theorem RV.near_cn (h : RV n rs) {k : Nat} (hk : k < rs.length) : ∀ (m v : Nat), v < n → 0 ≤ dist n rs (tB rs k) v → dist n rs (tB rs k) v < (m : Int) → dist n rs (tB rs k) v < dist n rs (tB rs k) (tA rs k) → Cn (eN (lessR rs k)) n v (tB rs k) := by
  obtain ⟨_, _, hA, hB, _⟩ := h.towns hk
  intro m
  induction m with
  | zero => intro v _ h0 h1 _; omega
  | succ m ih =>
    intro v hv h0 h1 h2
    by_cases e : v = tB rs k
    · subst e; exact .refl hv
    · obtain ⟨f1, f2, _⟩ := h.first_at hB hv h0 e
      obtain ⟨_, g1, g2, _⟩ := h.nx_less hB hv h0 f2
      have he := (nx_iff.1 f2).1
      refine (Cn.one hv f1 (h.left_edge hk he (fun q => ?_) (fun q => e q.1))).trans (ih _ f1 g1 (by omega) (by omega))
      rw [q.1] at h2
      omega
theorem asc_one {l : List Nat} {x : Nat} (h : l.Pairwise (· < ·)) (hl : 0 < l.length) (hx : ∀ v ∈ l, v = x) : l = [x] := by
  cases l with
  | nil => simp at hl
  | cons y ys =>
    cases ys with
    | nil => rw [hx y (by simp)]
    | cons z zs =>
      have h1 := hx y (by simp)
      have h2 := hx z (by simp)
      rw [List.pairwise_cons] at h
      have := h.1 z (by simp)
      omega
/-- a needed road is the one shortest way -/
theorem RV.needed_many (h : RV n rs) {k : Nat} (hk : k < rs.length) (hn : ¬ Cn (eN (lessR rs k)) n (tA rs k) (tB rs k)) : roadsMany n rs (a3 rs k) (b3 rs k) = 1 := by
  obtain ⟨e1, e2, hA, hB, hne⟩ := h.towns hk
  have hcn : Cn (eN rs) n (tA rs k) (tB rs k) := .one hA hB (by
    unfold eN
    rw [e1, e2, h.edge_road hk]
    exact (h.road k hk).2.2.2.1)
  have h0 := (h.dist_ge_iff hA hB).2 hcn
  have h0' : 0 ≤ dist n rs (tB rs k) (tA rs k) := by rw [h.dist_comm hB hA]; exact h0
  rw [← e1, ← e2]
  rw [roadsMany_t (by rw [roadsFar_in (roadsValid_of h) hA hB]; exact h0), h.many_eq hB hA h0' hne]
  have hx : ∀ v ∈ nxs n rs (tB rs k) (tA rs k), v = tB rs k := fun v hv => by
    obtain ⟨hvn, hvx⟩ := mem_nxs.1 hv
    obtain ⟨_, g1, g2, g3⟩ := h.nx_less hB hA h0' hvx
    refine Classical.byContradiction fun e => hn ?_
    exact (Cn.one hA hvn (h.left_edge hk (nx_iff.1 hvx).1 (fun q => e q.2) (fun q => hne q.1))).trans (h.near_cn hk _ v hvn g1 (show _ < (((dist n rs (tB rs k) v).toNat + 1 : Nat) : Int) by omega) g2)
  rw [asc_one (nxs_asc _ _ _ _) (h.first_at hB hA h0' hne).2.2.2 hx]
  simp [sumL, many_end]
/-- a needed road is in the net -/
theorem RV.needed_net (h : RV n rs) (hw : whole n rs = true) {k : Nat} (hk : k < rs.length) (hn : ¬ Cn (eN (lessR rs k)) n (tA rs k) (tB rs k)) : (k : Int) ∈ roadsNet n rs := by
  rw [roadsNet_t hw]
  unfold castL
  refine List.mem_map.2 ⟨k, (mem_netL h).2 ?_, rfl⟩
  exact h.kr_needed (order rs) [] forest_nil (fun i hi => h.mem_order.1 hi) order_nodup (fun i _ hi => by cases hi) k (h.mem_order.2 hk) hn
/-- the law of FnNeeded, road by road -/
theorem RV.needed_law (h : RV n rs) {x : Int} (hx : x ∈ needed n rs) : ∃ k : Nat, x = k ∧ k < rs.length ∧ 0 ≤ direct n rs (a3 rs k) (b3 rs k) ∧ roadsClose n rs (a3 rs k) (b3 rs k) = lessR rs k ∧ roadsFar n (lessR rs k) (a3 rs k) (b3 rs k) = -1 ∧ roadsMany n rs (a3 rs k) (b3 rs k) = 1 ∧ (whole n rs = true → (k : Int) ∈ roadsNet n rs) := by
  have hv := roadsValid_of h
  have e : needed n rs = neededTo n rs rs.length := by rw [needed, hv]; rfl
  have hx' := hx
  rw [e, mem_neededTo] at hx'
  obtain ⟨k, rfl, hk, _⟩ := hx'
  have hn := (h.needed_iff hk).1 hx
  obtain ⟨c1, c2⟩ := h.close_at hk
  obtain ⟨e1, e2, hA, hB, _⟩ := h.towns hk
  refine ⟨k, rfl, hk, c1, c2, ?_, h.needed_many hk hn, fun hw => h.needed_net hw hk hn⟩
  rw [← e1, ← e2, roadsFar_in (roadsValid_of (h.without hk)) hA hB]
  rcases (h.without hk).dist_at hA hB with ⟨g, _⟩ | ⟨g, _, g2⟩
  · exact g
  · obtain ⟨⟨q, wq⟩, _⟩ := g2
    exact absurd ⟨_, _, wq⟩ hn
end
end Go.Proofs.Ytdnjeahbnidefaa

/- Plain laws of FnRoadsNet: the net's roads as roads of their own. No program is named here. -/
import Derived.Test.YtdnjeahbnidefaaRoNt
import Derived.Test.YtdnjeahbnidefaaWhLaw
import Derived.Test.YtdnjeahbnidefaaRwLaw
import Derived.Test.YtdnjeahbnidefaaRoNeed
namespace Go.Proofs.Ytdnjeahbnidefaa
open Go.RowKit
section
variable {n : Nat} {rs : List (Int × Int × Int)}
theorem RV.eT_same (h : RV n rs) {T U : List Nat} (hT : IsIdx rs T) (hU : IsIdx rs U) (hs : ∀ i, i ∈ T ↔ i ∈ U) : eT rs T = eT rs U := by
  funext a b
  exact (h.pick hT.2 hT.1).edge_same (h.pick hU.2 hU.1) (fun r => by
    rw [mem_pick3, mem_pick3]
    exact ⟨fun ⟨i, g, e⟩ => ⟨i, (hs i).2 g, e⟩, fun ⟨i, g, e⟩ => ⟨i, (hs i).1 g, e⟩⟩) a b
theorem RV.forest_same (h : RV n rs) {T U : List Nat} (hF : Forest n rs T) (hU : IsIdx rs U) (hs : ∀ i, i ∈ T ↔ i ∈ U) : Forest n rs U := by
  refine ⟨hU, fun i hi hc => hF.2 i ((hs i).2 hi) ?_⟩
  rw [h.eT_same (hF.1.but i) (hU.but i) (fun j => by rw [mem_butI, mem_butI, hs j])]
  exact hc
theorem netL_nodup (n : Nat) (rs : List (Int × Int × Int)) : (netL n rs).Nodup := (netL_asc n rs).imp fun h => by omega
theorem RV.netL_idx (h : RV n rs) : IsIdx rs (netL n rs) := ⟨netL_nodup n rs, fun i hi => (h.net_forest (fun _ hi => h.mem_order.1 hi)).1.2 i ((mem_netL h).1 hi)⟩
theorem RV.netL_forest (h : RV n rs) : Forest n rs (netL n rs) := h.forest_same (h.net_forest (fun _ hi => h.mem_order.1 hi)) h.netL_idx (fun _ => (mem_netL h).symm)
theorem RV.netL_all (h : RV n rs) (hc : AllCn (eN rs) n) : AllCn (eT rs (netL n rs)) n := by
  rw [h.eT_same h.netL_idx (h.net_forest (fun _ hi => h.mem_order.1 hi)).1 (fun i => mem_netL h)]
  exact h.net_all hc
theorem RV.netL_len (h : RV n rs) (hc : AllCn (eN rs) n) : (netL n rs).length = n - 1 := h.tree_roads h.netL_forest (h.netL_all hc)
theorem pick3_len (rs : List (Int × Int × Int)) (T : List Nat) : (pick3 rs T).length = T.length := by simp [pick3]
/-- each road of a forest is needed there -/
theorem RV.forest_needed (h : RV n rs) {T : List Nat} (hF : Forest n rs T) {k : Nat} (hk : k < T.length) : isNeeded n (pick3 rs T) k = true := by
  have g := h.pick hF.1.2 hF.1.1
  have hk' : k < (pick3 rs T).length := by rw [pick3_len]; exact hk
  obtain ⟨_, _, h1, h2, _⟩ := g.towns hk'
  have hi : T.getD k 0 ∈ T := by
    rw [List.getD_eq_getElem?_getD, List.getElem?_eq_getElem hk]
    exact List.getElem_mem hk
  unfold isNeeded
  rw [decide_eq_true_eq]
  refine ((g.without hk').dist_neg_iff h1 h2).2 (fun hc => hF.2 _ hi ?_)
  have e1 : (a3 (pick3 rs T) k).toNat = tA rs (T.getD k 0) := by unfold a3 tA; rw [pick3_at _ _ _ hk]; rfl
  have e2 : (b3 (pick3 rs T) k).toNat = tB rs (T.getD k 0) := by unfold b3 tB; rw [pick3_at _ _ _ hk]; rfl
  have he : eN (lessR (pick3 rs T) k) = eT rs (butI T (T.getD k 0)) := by
    funext a b
    refine (g.without hk').edge_same (h.pick (hF.1.but _).2 (hF.1.but _).1) (fun r => ?_) a b
    rw [g.mem_without hk', mem_pick3, mem_pick3, pick3_at _ _ _ hk]
    constructor
    · rintro ⟨i, hm, e⟩
      obtain ⟨hm, hne⟩ := mem_butI.1 hm
      exact ⟨⟨i, hm, e⟩, fun q => hne (h.at_inj (hF.1.2 i hm) (hF.1.2 _ hi) (e.trans q))⟩
    · rintro ⟨⟨i, hm, e⟩, hne⟩
      exact ⟨i, mem_butI.2 ⟨hm, fun q => hne (by rw [← e, q])⟩, e⟩
  rw [he] at hc
  have e1' : tA (pick3 rs T) k = tA rs (T.getD k 0) := e1
  have e2' : tB (pick3 rs T) k = tB rs (T.getD k 0) := e2
  rw [e1', e2'] at hc
  exact hc
theorem neededTo_all {n : Nat} {qs : List (Int × Int × Int)} : ∀ k, (∀ i, i < k → isNeeded n qs i = true) → (neededTo n qs k).length = k := by
  intro k
  induction k with
  | zero => intro _; rfl
  | succ k ih =>
    intro h
    rw [neededTo_t (h k (by omega)), List.length_append, ih (fun i hi => h i (by omega))]
    rfl
/-- the roads of the net -/
def netR (n : Nat) (rs : List (Int × Int × Int)) : List (Int × Int × Int) := pick3 rs (netL n rs)
theorem RV.net_law (h : RV n rs) (hc : AllCn (eN rs) n) : RV n (netR n rs) ∧ (netR n rs).length = n - 1 ∧ whole n (netR n rs) = true ∧ (needed n (netR n rs)).length = n - 1 := by
  have g : RV n (netR n rs) := h.pick h.netL_idx.2 h.netL_idx.1
  have hl : (netR n rs).length = n - 1 := by unfold netR; rw [pick3_len, h.netL_len hc]
  refine ⟨g, hl, g.whole_of (h.netL_all hc), ?_⟩
  rw [needed_t (roadsValid_of g)]
  exact (neededTo_all (qs := netR n rs) _ (fun i hi => h.forest_needed h.netL_forest (by rw [← pick3_len rs]; exact hi))).trans hl
/-- the way of a road's towns in the net: no road of it is longer than that one -/
theorem RV.net_way (h : RV n rs) (hc : AllCn (eN rs) n) {g : Nat} (hg : g < rs.length) : ∃ W : List Int, roadsWay n (netR n rs) (a3 rs g) (b3 rs g) = W ∧ 0 ≤ roadsFar n (netR n rs) (a3 rs g) (b3 rs g) ∧ W.length ≤ 801 ∧ (∀ i, i < W.length → 0 ≤ a1 W i ∧ a1 W i < n) ∧ ∀ k, 1 ≤ k → k < W.length → -1 ≤ direct n (netR n rs) (a1 W (k - 1)) (a1 W k) ∧ direct n (netR n rs) (a1 W (k - 1)) (a1 W k) ≤ c3 rs g := by
  have q : RV n (netR n rs) := h.pick h.netL_idx.2 h.netL_idx.1
  obtain ⟨e1, e2, hA, hB, _⟩ := h.towns hg
  have hall := h.netL_all hc
  have hv := roadsValid_of q
  have h0 : 0 ≤ dist n (netR n rs) (tB rs g) (tA rs g) := (q.dist_ge_iff hB hA).2 (hall _ _ hB hA)
  have h0' : 0 ≤ roadsFar n (netR n rs) (tA rs g) (tB rs g) := by
    have := roadsFar_in (rs := netR n rs) hv hA hB
    rw [this]
    exact (q.dist_ge_iff hA hB).2 (hall _ _ hA hB)
  rw [← e1, ← e2]
  obtain ⟨w1, w2, w3, w4, w5, w6⟩ := q.wayN_is hB (dist n (netR n rs) (tB rs g) (tA rs g)).toNat (tA rs g) hA h0 (Nat.le_refl _)
  have hl := (q.wayTown_len hB hA h0).2
  refine ⟨_, roadsWay_t h0', h0', by rw [castL_len]; exact hl, fun i hi => ?_, fun k hk1 hk => ?_⟩
  · rw [castL_len] at hi
    rw [castL_at]
    have := (w4 i hi).1
    unfold wayTown
    omega
  · rw [castL_len] at hk
    obtain ⟨j, rfl⟩ : ∃ j, k = j + 1 := ⟨k - 1, by omega⟩
    have hx := w5 j hk
    obtain ⟨n1, n2⟩ := nx_iff.1 hx
    have hd : direct n (netR n rs) (a1 (castL (wayTown n (netR n rs) (tA rs g) (tB rs g))) (j + 1 - 1)) (a1 (castL (wayTown n (netR n rs) (tA rs g) (tB rs g))) (j + 1)) = eN (netR n rs) ((wayTown n (netR n rs) (tA rs g) (tB rs g)).getD j 0) ((wayTown n (netR n rs) (tA rs g) (tB rs g)).getD (j + 1) 0) := by
      rw [castL_at, castL_at, direct, if_pos hv]
      rfl
    rw [hd]
    obtain ⟨f, hf, hj⟩ := (h.adj h.netL_idx).1 (show 1 ≤ eT rs (netL n rs) _ _ from n1)
    have hfl := h.netL_idx.2 f hf
    have hval : eN (netR n rs) ((wayTown n (netR n rs) (tA rs g) (tB rs g)).getD j 0) ((wayTown n (netR n rs) (tA rs g) (tB rs g)).getD (j + 1) 0) = c3 rs f := by
      refine (q.edge_mem (r := rs.getD f (0, 0, 0)) (mem_pick3.2 ⟨f, hf, rfl⟩) ?_).1
      obtain ⟨t1, t2, _⟩ := h.towns hfl
      obtain ⟨r1, r2, _⟩ := h.road f hfl
      unfold joins
      rw [get3]
      simp only
      unfold wayTown
      rcases hj with ⟨j1, j2⟩ | ⟨j1, j2⟩ <;> rw [j1, j2] <;> omega
    rw [hval]
    refine ⟨by have := h.road f hfl; omega, ?_⟩
    refine Classical.byContradiction fun hlong => ?_
    have hno := h.chain_but h.netL_forest hf (dist n (netR n rs) (tB rs g)) (fun i => (wayTown n (netR n rs) (tA rs g) (tB rs g)).getD i 0) ((wayTown n (netR n rs) (tA rs g) (tB rs g)).length - 1) j (by omega) (fun i hi => (w4 i (show i < (wayTown n (netR n rs) (tA rs g) (tB rs g)).length by omega)).1) (fun i hi => by
      have hil : i + 1 < (wayTown n (netR n rs) (tA rs g) (tB rs g)).length := by omega
      have hxi := w5 i hil
      obtain ⟨g1, g2⟩ := w4 i (Nat.lt_of_succ_lt hil)
      exact ⟨(nx_iff.1 hxi).1, (q.nx_less hB g1 g2 hxi).2.2.1⟩) hj
    have hs := h.kr_short (order rs) [] forest_nil (fun _ hi => h.mem_order.1 hi) order_miles (fun i hi => by cases hi) g (h.mem_order.2 hg)
    refine hno ?_
    have hend : (wayTown n (netR n rs) (tA rs g) (tB rs g)).getD ((wayTown n (netR n rs) (tA rs g) (tB rs g)).length - 1) 0 = tB rs g := w3
    have hst : (wayTown n (netR n rs) (tA rs g) (tB rs g)).getD 0 0 = tA rs g := w2
    show Cn _ n ((wayTown n (netR n rs) (tA rs g) (tB rs g)).getD 0 0) ((wayTown n (netR n rs) (tA rs g) (tB rs g)).getD ((wayTown n (netR n rs) (tA rs g) (tB rs g)).length - 1) 0)
    rw [hend, hst]
    refine h.cn_mono ((h.net_forest (fun _ hi => h.mem_order.1 hi)).1.filter _) (h.netL_idx.but f) (fun i hi => ?_) hs
    obtain ⟨m1, m2⟩ := List.mem_filter.1 hi
    rw [decide_eq_true_eq] at m2
    exact mem_butI.2 ⟨(mem_netL h).2 m1, fun e => by subst e; omega⟩
end
end Go.Proofs.Ytdnjeahbnidefaa

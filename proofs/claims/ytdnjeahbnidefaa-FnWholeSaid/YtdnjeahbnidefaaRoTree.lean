/- Plain laws: how many roads join all towns. No program is named here. -/
import Derived.Test.YtdnjeahbnidefaaRoNet
namespace Go.Proofs.Ytdnjeahbnidefaa

section
variable {n : Nat} {rs : List (Int × Int × Int)}
/-- all towns are joined -/
def AllCn (e : Nat → Nat → Int) (n : Nat) : Prop := ∀ u v, u < n → v < n → Cn e n u v
theorem RV.parent (h : RV n rs) {T : List Nat} (hT : IsIdx rs T) (hc : AllCn (eT rs T) n) : ∃ (D : Nat → Int) (pe up : Nat → Nat), (∀ v, v < n → 0 ≤ D v) ∧ ∀ v, 0 < v → v < n → pe v ∈ T ∧ up v < n ∧ ((v = tA rs (pe v) ∧ up v = tB rs (pe v)) ∨ (v = tB rs (pe v) ∧ up v = tA rs (pe v))) ∧ D (up v) < D v := by
  have hp := h.pick hT.2 hT.1
  have h1 := h.n1
  have hge : ∀ v, v < n → 0 ≤ dist n (pick3 rs T) v 0 := fun v hv => (hp.dist_ge_iff hv h1).2 (hc v 0 hv h1)
  have key : ∀ v : Nat, ∃ p : Nat × Nat, 0 < v → v < n → p.1 ∈ T ∧ p.2 < n ∧ ((v = tA rs p.1 ∧ p.2 = tB rs p.1) ∨ (v = tB rs p.1 ∧ p.2 = tA rs p.1)) ∧ dist n (pick3 rs T) p.2 0 < dist n (pick3 rs T) v 0 := fun v => by
    by_cases c : 0 < v ∧ v < n
    · obtain ⟨v0, vn⟩ := c
      have hd := hp.dist_is vn h1 (hge v vn)
      obtain ⟨⟨k, w⟩, _⟩ := hd
      rcases w.cases with ⟨_, e, _⟩ | ⟨b, j, M, _, g1, g2, g3⟩
      · omega
      · obtain ⟨i, i1, i2⟩ := (h.adj hT).1 g1
        refine ⟨(i, b), fun _ _ => ⟨i1, g2.lt_l, i2, ?_⟩⟩
        have := (hp.dist_is g2.lt_l h1 (hge b g2.lt_l)).2 _ _ g2
        show dist n (pick3 rs T) b 0 < _
        omega
    · exact ⟨(0, 0), fun a b => absurd ⟨a, b⟩ c⟩
  obtain ⟨f, hf⟩ := Classical.axiomOfChoice key
  exact ⟨fun v => dist n (pick3 rs T) v 0, fun v => (f v).1, fun v => (f v).2, hge, hf⟩
theorem RV.many_roads (h : RV n rs) {T : List Nat} (hT : IsIdx rs T) (hc : AllCn (eT rs T) n) : n - 1 ≤ T.length := by
  obtain ⟨D, pe, up, d0, hp⟩ := h.parent hT hc
  have := nodup_le ((List.range (n - 1)).map fun k => pe (k + 1)) T (by
    rw [List.nodup_iff_pairwise_ne, List.pairwise_map]
    refine List.Pairwise.imp_of_mem ?_ (List.nodup_iff_pairwise_ne.1 List.nodup_range)
    intro a b ha hb hab e
    rw [List.mem_range] at ha hb
    obtain ⟨_, _, a3, a4⟩ := hp (a + 1) (by omega) (by omega)
    obtain ⟨_, _, b3, b4⟩ := hp (b + 1) (by omega) (by omega)
    have e' : pe (a + 1) = pe (b + 1) := e
    rw [e'] at a3
    have h1 : up (a + 1) = b + 1 := by omega
    have h2 : up (b + 1) = a + 1 := by omega
    rw [h1] at a4
    rw [h2] at b4
    omega) (fun x hx => by
    obtain ⟨k, hk, rfl⟩ := List.mem_map.1 hx
    rw [List.mem_range] at hk
    exact (hp (k + 1) (by omega) (by omega)).1)
  simpa using this
theorem RV.tree_roads (h : RV n rs) {T : List Nat} (hF : Forest n rs T) (hc : AllCn (eT rs T) n) : T.length = n - 1 := by
  have h0 := h.n1
  have hge := h.many_roads hF.1 hc
  obtain ⟨hT, hF⟩ := hF
  obtain ⟨D, pe, up, d0, hp⟩ := h.parent hT hc
  have hall : ∀ i : Nat, ∃ x : Nat, i ∈ T → 0 < x ∧ x < n ∧ pe x = i := fun i => by
    by_cases hi : i ∈ T
    · refine Classical.byContradiction fun hno => hF i hi ?_
      have hno' : ∀ x, 0 < x → x < n → pe x ≠ i := fun x a b e => hno ⟨x, fun _ => ⟨a, b, e⟩⟩
      have hz : ∀ (m v : Nat), v < n → D v < (m : Int) → Cn (eT rs (butI T i)) n v 0 := by
        intro m
        induction m with
        | zero => intro v hv hd; have := d0 v hv; omega
        | succ m ih =>
          intro v hv hd
          by_cases v0 : v = 0
          · subst v0; exact .refl hv
          · obtain ⟨p1, p2, p3, p4⟩ := hp v (by omega) hv
            have := hno' v (by omega) hv
            exact (Cn.one hv p2 ((h.adj (hT.but i)).2 ⟨pe v, mem_butI.2 ⟨p1, this⟩, p3⟩)).trans (ih (up v) p2 (by omega))
      have ht := h.towns (hT.2 i hi)
      have ha := d0 (tA rs i) ht.2.2.1
      have hb := d0 (tB rs i) ht.2.2.2.1
      exact (hz ((D (tA rs i)).toNat + 1) _ ht.2.2.1 (by omega)).trans ((hz ((D (tB rs i)).toNat + 1) _ ht.2.2.2.1 (by omega)).symm (eT_comm _ _))
    · exact ⟨0, fun h => absurd h hi⟩
  obtain ⟨f, hf⟩ := Classical.axiomOfChoice hall
  have := nodup_le (T.map f) ((List.range (n - 1)).map (· + 1)) (by
    rw [List.nodup_iff_pairwise_ne, List.pairwise_map]
    refine List.Pairwise.imp_of_mem ?_ (List.nodup_iff_pairwise_ne.1 hT.1)
    intro a b ha hb hab e
    have := (hf a ha).2.2
    have := (hf b hb).2.2
    simp_all) (fun x hx => by
    obtain ⟨i, hi, rfl⟩ := List.mem_map.1 hx
    obtain ⟨g1, g2, _⟩ := hf i hi
    exact List.mem_map.2 ⟨f i - 1, by rw [List.mem_range]; omega, by omega⟩)
  simp at this
  omega
/-- a road of a net that a shortest way goes over: nothing else joins its towns -/
theorem RV.chain_but (h : RV n rs) {T : List Nat} (hF : Forest n rs T) {f : Nat} (hf : f ∈ T) (D : Nat → Int) (ws : Nat → Nat) (m k : Nat) (hk : k < m) (hw : ∀ j, j ≤ m → ws j < n)
    (hs : ∀ j, j < m → 1 ≤ eT rs T (ws j) (ws (j + 1)) ∧ D (ws (j + 1)) < D (ws j)) (hfk : (ws k = tA rs f ∧ ws (k + 1) = tB rs f) ∨ (ws k = tB rs f ∧ ws (k + 1) = tA rs f)) : ¬ Cn (eT rs (butI T f)) n (ws 0) (ws m) := by
  intro hc
  have hmono : ∀ a b, a ≤ b → b ≤ m → D (ws b) ≤ D (ws a) ∧ (a < b → D (ws b) < D (ws a)) := by
    intro a b
    induction b with
    | zero => intro h1 _; obtain rfl : a = 0 := by omega
              exact ⟨Int.le_refl _, fun h => by omega⟩
    | succ b ih =>
      intro h1 h2
      by_cases e : a = b + 1
      · subst e; exact ⟨Int.le_refl _, fun h => by omega⟩
      · have := ih (by omega) (by omega)
        have := (hs b (by omega)).2
        exact ⟨by omega, fun _ => by omega⟩
  have hstep : ∀ j, j < m → j ≠ k → Cn (eT rs (butI T f)) n (ws j) (ws (j + 1)) := by
    intro j hj hne
    obtain ⟨h1, h2⟩ := hs j hj
    obtain ⟨i, i1, i2⟩ := (h.adj hF.1).1 h1
    refine .one (hw j (by omega)) (hw (j + 1) (by omega)) ((h.adj (hF.1.but f)).2 ⟨i, mem_butI.2 ⟨i1, fun e => ?_⟩, i2⟩)
    subst e
    rcases Nat.lt_or_gt_of_ne hne with c | c
    · have q1 := (hmono j k (by omega) (by omega)).2 c
      have q2 := (hmono j (k + 1) (by omega) (by omega)).2 (by omega)
      have e1 : ws j = ws k ∨ ws j = ws (k + 1) := by omega
      rcases e1 with e1 | e1 <;> rw [e1] at q1 q2 <;> omega
    · have q1 := (hmono k (j + 1) (by omega) (by omega)).2 (by omega)
      have q2 := (hmono (k + 1) (j + 1) (by omega) (by omega)).2 (by omega)
      have e1 : ws (j + 1) = ws k ∨ ws (j + 1) = ws (k + 1) := by omega
      rcases e1 with e1 | e1 <;> rw [e1] at q1 q2 <;> omega
  have hpart : ∀ a b, a ≤ b → b ≤ m → (b ≤ k ∨ k < a) → Cn (eT rs (butI T f)) n (ws a) (ws b) := by
    intro a b
    induction b with
    | zero => intro h1 _ _; obtain rfl : a = 0 := by omega
              exact .refl (hw 0 (by omega))
    | succ b ih =>
      intro h1 h2 h3
      by_cases e : a = b + 1
      · subst e; exact .refl (hw _ h2)
      · exact (ih (by omega) (by omega) (by omega)).trans (hstep b (by omega) (by omega))
  have hs1 := eT_comm rs (butI T f)
  have c1 := hpart 0 k (by omega) (by omega) (by omega)
  have c2 := hpart (k + 1) m (by omega) (by omega) (by omega)
  have c3 := (c1.symm hs1).trans (hc.trans (c2.symm hs1))
  rcases hfk with ⟨e1, e2⟩ | ⟨e1, e2⟩
  · rw [e1, e2] at c3
    exact hF.2 f hf c3
  · rw [e1, e2] at c3
    exact hF.2 f hf (c3.symm hs1)
end
end Go.Proofs.Ytdnjeahbnidefaa

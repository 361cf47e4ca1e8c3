/- Plain laws: the shortest net (Kruskal): no road in it is needless, all that is joined stays joined. No program is named here. -/
import Derived.Test.YtdnjeahbnidefaaRoCn
namespace Go.Proofs.Ytdnjeahbnidefaa

section
variable {n : Nat} {rs : List (Int × Int × Int)}
/-- what indexes of roads are -/
def IsIdx (rs : List (Int × Int × Int)) (T : List Nat) : Prop := T.Nodup ∧ ∀ i ∈ T, i < rs.length
/-- the towns that the i-th road joins -/
def tA (rs : List (Int × Int × Int)) (i : Nat) : Nat := (a3 rs i).toNat
def tB (rs : List (Int × Int × Int)) (i : Nat) : Nat := (b3 rs i).toNat
theorem RV.towns (h : RV n rs) {i : Nat} (hi : i < rs.length) : (tA rs i : Int) = a3 rs i ∧ (tB rs i : Int) = b3 rs i ∧ tA rs i < n ∧ tB rs i < n ∧ tA rs i ≠ tB rs i := by
  obtain ⟨g1, g2, g3, _⟩ := h.road i hi
  unfold tA tB
  omega
/-- the edges of the roads at some indexes -/
def eT (rs : List (Int × Int × Int)) (T : List Nat) : Nat → Nat → Int := eN (pick3 rs T)
theorem eT_comm (rs : List (Int × Int × Int)) (T : List Nat) (a b : Nat) : eT rs T a b = eT rs T b a := eN_comm _ _ _
theorem RV.adj (h : RV n rs) {T : List Nat} (hT : IsIdx rs T) {a b : Nat} : 1 ≤ eT rs T a b ↔ ∃ i, i ∈ T ∧ ((a = tA rs i ∧ b = tB rs i) ∨ (a = tB rs i ∧ b = tA rs i)) := by
  unfold eT eN
  rw [(h.pick hT.2 hT.1).edge_iff]
  constructor
  · rintro ⟨r, hr, hj⟩
    obtain ⟨i, hi, rfl⟩ := mem_pick3.1 hr
    have ht := h.towns (hT.2 i hi)
    obtain ⟨g1, g2, _⟩ := h.road i (hT.2 i hi)
    refine ⟨i, hi, ?_⟩
    have h1 : a3 rs i = min (a : Int) b := hj.1
    have h2 : b3 rs i = max (a : Int) b := hj.2
    omega
  · rintro ⟨i, hi, hab⟩
    have ht := h.towns (hT.2 i hi)
    obtain ⟨g1, g2, _⟩ := h.road i (hT.2 i hi)
    refine ⟨_, mem_pick3.2 ⟨i, hi, rfl⟩, ?_, ?_⟩
    · show a3 rs i = min (a : Int) b
      omega
    · show b3 rs i = max (a : Int) b
      omega
theorem RV.adj_mono (h : RV n rs) {T U : List Nat} (hT : IsIdx rs T) (hU : IsIdx rs U) (hs : ∀ i ∈ T, i ∈ U) {a b : Nat} (hab : 1 ≤ eT rs T a b) : 1 ≤ eT rs U a b := by
  rw [h.adj hT] at hab
  rw [h.adj hU]
  obtain ⟨i, h1, h2⟩ := hab
  exact ⟨i, hs i h1, h2⟩
theorem RV.cn_mono (h : RV n rs) {T U : List Nat} (hT : IsIdx rs T) (hU : IsIdx rs U) (hs : ∀ i ∈ T, i ∈ U) {a b : Nat} (hab : Cn (eT rs T) n a b) : Cn (eT rs U) n a b :=
  hab.mono fun _ _ => h.adj_mono hT hU hs
theorem RV.cn_road (h : RV n rs) {T : List Nat} (hT : IsIdx rs T) {i : Nat} (hi : i ∈ T) : Cn (eT rs T) n (tA rs i) (tB rs i) := by
  have ht := h.towns (hT.2 i hi)
  exact .one ht.2.2.1 ht.2.2.2.1 ((h.adj hT).2 ⟨i, hi, .inl ⟨rfl, rfl⟩⟩)
/-- all indexes but one -/
def butI (T : List Nat) (i : Nat) : List Nat := T.filter fun j => !decide (j = i)
theorem mem_butI {T : List Nat} {i j : Nat} : j ∈ butI T i ↔ j ∈ T ∧ j ≠ i := by
  unfold butI; rw [List.mem_filter]; simp
theorem IsIdx.but {T : List Nat} (h : IsIdx rs T) (i : Nat) : IsIdx rs (butI T i) := ⟨h.1.filter _, fun j hj => h.2 j (mem_butI.1 hj).1⟩
theorem IsIdx.filter {T : List Nat} (h : IsIdx rs T) (p : Nat → Bool) : IsIdx rs (T.filter p) := ⟨h.1.filter _, fun j hj => h.2 j (List.mem_filter.1 hj).1⟩
/-- no road can be spared -/
def Forest (n : Nat) (rs : List (Int × Int × Int)) (T : List Nat) : Prop := IsIdx rs T ∧ ∀ i ∈ T, ¬ Cn (eT rs (butI T i)) n (tA rs i) (tB rs i)
theorem IsIdx.snoc {T : List Nat} (h : IsIdx rs T) {g : Nat} (hg : g ∉ T) (hl : g < rs.length) : IsIdx rs (T ++ [g]) :=
  ⟨List.nodup_append.2 ⟨h.1, by simp, fun a ha b hb => by cases List.mem_singleton.1 hb; exact fun e => hg (e ▸ ha)⟩, fun i hi => by
    rcases List.mem_append.1 hi with hi | hi
    · exact h.2 i hi
    · cases List.mem_singleton.1 hi; exact hl⟩
theorem RV.forest_snoc (h : RV n rs) {T : List Nat} (hF : Forest n rs T) {g : Nat} (hl : g < rs.length) (hc : ¬ Cn (eT rs T) n (tA rs g) (tB rs g)) : g ∉ T ∧ Forest n rs (T ++ [g]) := by
  obtain ⟨hT, hF⟩ := hF
  have hg : g ∉ T := fun hm => hc (h.cn_road hT hm)
  have hT' := hT.snoc hg hl
  refine ⟨hg, hT', fun i hi hcn => ?_⟩
  by_cases e : i = g
  · subst e
    exact hc (h.cn_mono (hT'.but i) hT (fun j hj => by
      obtain ⟨j1, j2⟩ := mem_butI.1 hj
      rcases List.mem_append.1 j1 with j1 | j1
      · exact j1
      · exact absurd (List.mem_singleton.1 j1) j2) hcn)
  · have hiT : i ∈ T := by
      rcases List.mem_append.1 hi with hi | hi
      · exact hi
      · exact absurd (List.mem_singleton.1 hi) e
    have hg3 := h.towns hl
    have hbut : ∀ a b, Cn (eT rs (butI T i)) n a b → Cn (eT rs T) n a b := fun a b => h.cn_mono (hT.but i) hT (fun j hj => (mem_butI.1 hj).1)
    have hroad := h.cn_road hT hiT
    rcases hcn.add hg3.2.2.1 hg3.2.2.2.1 (e := eT rs (butI T i)) (fun a b hab => by
      rw [h.adj (hT'.but i)] at hab
      obtain ⟨j, j1, j2⟩ := hab
      obtain ⟨j3, j4⟩ := mem_butI.1 j1
      rcases List.mem_append.1 j3 with j3 | j3
      · exact .inl ((h.adj (hT.but i)).2 ⟨j, mem_butI.2 ⟨j3, j4⟩, j2⟩)
      · cases List.mem_singleton.1 j3
        exact .inr j2) with c | ⟨c1, c2⟩ | ⟨c1, c2⟩
    · exact hF i hiT c
    · exact hc (((hbut _ _ c1).symm (eT_comm rs T)).trans (hroad.trans ((hbut _ _ c2).symm (eT_comm rs T))))
    · exact hc ((hbut _ _ c2).trans ((hroad.symm (eT_comm rs T)).trans (hbut _ _ c1)))
/-- one road's turn -/
def kstep (n : Nat) (rs : List (Int × Int × Int)) (T : List Nat) (i : Nat) : List Nat := if dist n (pick3 rs T) (tA rs i) (tB rs i) < 0 then T ++ [i] else T
def kr (n : Nat) (rs : List (Int × Int × Int)) (T : List Nat) (order : List Nat) : List Nat := order.foldl (kstep n rs) T
theorem RV.kstep_law (h : RV n rs) {T : List Nat} (hF : Forest n rs T) {g : Nat} (hl : g < rs.length) :
    Forest n rs (kstep n rs T g) ∧ (∀ i ∈ T, i ∈ kstep n rs T g) ∧ (∀ i ∈ kstep n rs T g, i ∈ T ∨ i = g) ∧ Cn (eT rs (kstep n rs T g)) n (tA rs g) (tB rs g) ∧ (g ∈ kstep n rs T g ∨ Cn (eT rs T) n (tA rs g) (tB rs g)) := by
  have hp := h.pick hF.1.2 hF.1.1
  have ht := h.towns hl
  have hd := hp.dist_neg_iff ht.2.2.1 ht.2.2.2.1
  unfold kstep
  by_cases c : dist n (pick3 rs T) (tA rs g) (tB rs g) < 0
  · rw [if_pos c]
    obtain ⟨h1, h2⟩ := h.forest_snoc hF hl (hd.1 c)
    exact ⟨h2, fun i hi => by simp [hi], fun i hi => by simpa using hi, h.cn_road h2.1 (by simp), .inl (by simp)⟩
  · rw [if_neg c]
    have hc : Cn (eT rs T) n (tA rs g) (tB rs g) := Classical.byContradiction fun hc => c (hd.2 hc)
    exact ⟨hF, fun i hi => hi, fun i hi => .inl hi, hc, .inr hc⟩
theorem RV.kr_law (h : RV n rs) : ∀ (order T : List Nat), Forest n rs T → (∀ i ∈ order, i < rs.length) →
    Forest n rs (kr n rs T order) ∧ (∀ i ∈ T, i ∈ kr n rs T order) ∧ (∀ i ∈ kr n rs T order, i ∈ T ∨ i ∈ order) ∧ ∀ g ∈ order, Cn (eT rs (kr n rs T order)) n (tA rs g) (tB rs g) := by
  intro order
  induction order with
  | nil => intro T hF _; exact ⟨hF, fun i hi => hi, fun i hi => .inl hi, fun g hg => by cases hg⟩
  | cons g order ih =>
    intro T hF hl
    obtain ⟨s1, s2, s3, s4, _⟩ := h.kstep_law hF (hl g (by simp))
    obtain ⟨i1, i2, i3, i4⟩ := ih (kstep n rs T g) s1 (fun i hi => hl i (by simp [hi]))
    refine ⟨i1, fun i hi => i2 i (s2 i hi), fun i hi => ?_, fun j hj => ?_⟩
    · rcases i3 i hi with c | c
      · rcases s3 i c with c | rfl
        · exact .inl c
        · exact .inr (by simp)
      · exact .inr (by simp [c])
    · rcases List.mem_cons.1 hj with rfl | hj
      · exact h.cn_mono s1.1 i1.1 i2 s4
      · exact i4 j hj
/-- each road's towns are joined by net roads that are no longer -/
theorem RV.kr_short (h : RV n rs) : ∀ (order T : List Nat), Forest n rs T → (∀ i ∈ order, i < rs.length) → order.Pairwise (fun i j => c3 rs i ≤ c3 rs j) → (∀ i ∈ T, ∀ j ∈ order, c3 rs i ≤ c3 rs j) →
    ∀ g ∈ order, Cn (eT rs ((kr n rs T order).filter fun i => decide (c3 rs i ≤ c3 rs g))) n (tA rs g) (tB rs g) := by
  intro order
  induction order with
  | nil => intro T _ _ _ _ g hg; cases hg
  | cons g order ih =>
    intro T hF hl hs hT j hj
    obtain ⟨s1, s2, s3, s4, _⟩ := h.kstep_law hF (hl g (by simp))
    obtain ⟨p1, p2⟩ := List.pairwise_cons.1 hs
    obtain ⟨i1, i2, i3, i4⟩ := h.kr_law order (kstep n rs T g) s1 (fun i hi => hl i (by simp [hi]))
    rcases List.mem_cons.1 hj with rfl | hj
    · refine h.cn_mono s1.1 (i1.1.filter _) (fun i hi => List.mem_filter.2 ⟨i2 i hi, ?_⟩) s4
      rw [decide_eq_true_eq]
      rcases s3 i hi with c | rfl
      · exact hT i c j (by simp)
      · exact Int.le_refl _
    · exact ih (kstep n rs T g) s1 (fun i hi => hl i (by simp [hi])) p2 (fun i hi k hk => by
        rcases s3 i hi with c | rfl
        · exact hT i c k (by simp [hk])
        · exact p1 k hk) j hj
/-- a road without which its towns are not joined is taken -/
theorem RV.kr_needed (h : RV n rs) : ∀ (order T : List Nat), Forest n rs T → (∀ i ∈ order, i < rs.length) → order.Nodup → (∀ i ∈ order, i ∉ T) → ∀ g ∈ order, ¬ Cn (eN (lessR rs g)) n (tA rs g) (tB rs g) → g ∈ kr n rs T order := by
  intro order
  induction order with
  | nil => intro T _ _ _ _ g hg; cases hg
  | cons g order ih =>
    intro T hF hl hn hT j hj hc
    obtain ⟨n1, n2⟩ := List.nodup_cons.1 hn
    obtain ⟨s1, s2, s3, s4, s5⟩ := h.kstep_law hF (hl g (by simp))
    obtain ⟨i1, i2, i3, i4⟩ := h.kr_law order (kstep n rs T g) s1 (fun i hi => hl i (by simp [hi]))
    rcases List.mem_cons.1 hj with rfl | hj'
    · refine i2 _ ?_
      rcases s5 with s5 | s5
      · exact s5
      · refine absurd (s5.mono fun a b hab => ?_) hc
        rw [h.adj hF.1] at hab
        obtain ⟨i, q1, q2⟩ := hab
        have hjl := hl j (by simp)
        have hil := hF.1.2 i q1
        have hij : i ≠ j := fun e => hT j (by simp) (e ▸ q1)
        have ht := h.towns hil
        obtain ⟨g1, g2, _⟩ := h.road i hil
        unfold eN
        rw [(h.without hjl).edge_iff]
        refine ⟨rs.getD i (0, 0, 0), (h.mem_without hjl).2 ⟨mem3.2 ⟨i, hil, rfl⟩, fun e => hij (h.at_inj hil hjl e)⟩, ?_, ?_⟩
        · show a3 rs i = min (a : Int) b
          omega
        · show b3 rs i = max (a : Int) b
          omega
    · exact ih (kstep n rs T g) s1 (fun i hi => hl i (by simp [hi])) n2 (fun i hi hm => by
        rcases s3 i hm with c | rfl
        · exact hT i (by simp [hi]) c
        · exact n1 hi) j hj' hc
end
end Go.Proofs.Ytdnjeahbnidefaa

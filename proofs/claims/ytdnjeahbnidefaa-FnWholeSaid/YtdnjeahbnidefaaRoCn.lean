/- Plain laws: which towns are joined; a road more, a road less; roads told by their indexes. No program is named here. -/
import Derived.Test.YtdnjeahbnidefaaRoFar
import Derived.Test.YtdnjeahbnidefaaPigeon
namespace Go.Proofs.Ytdnjeahbnidefaa

section
variable {e e' : Nat → Nat → Int} {n : Nat}
/-- there is a way -/
def Cn (e : Nat → Nat → Int) (n u v : Nat) : Prop := ∃ k L, Wk e n k u v L
theorem Cn.refl {u : Nat} (h : u < n) : Cn e n u u := ⟨0, 0, .nil h⟩
theorem Cn.trans {u v x : Nat} (h : Cn e n u v) (g : Cn e n v x) : Cn e n u x := by
  obtain ⟨k, L, h⟩ := h
  obtain ⟨j, M, g⟩ := g
  exact ⟨_, _, h.append g⟩
theorem Cn.symm (hs : ∀ a b, e a b = e b a) {u v : Nat} (h : Cn e n u v) : Cn e n v u := by
  obtain ⟨k, L, h⟩ := h
  exact ⟨_, _, h.rev hs⟩
theorem Cn.one {u v : Nat} (hu : u < n) (hv : v < n) (h : 1 ≤ e u v) : Cn e n u v := ⟨_, _, Wk.one hu hv h⟩
theorem Cn.lt_l {u v : Nat} (h : Cn e n u v) : u < n := by obtain ⟨k, L, h⟩ := h; exact h.lt_l
theorem Cn.lt_r {u v : Nat} (h : Cn e n u v) : v < n := by obtain ⟨k, L, h⟩ := h; exact h.lt_r
theorem noWay_iff {u v : Nat} : NoWay e n u v ↔ ¬ Cn e n u v := ⟨fun h ⟨k, L, g⟩ => h k L g, fun h k L g => h ⟨k, L, g⟩⟩
/-- a way in other edges that join what each edge joins -/
theorem Wk.reroute {k u v : Nat} {L : Int} (h : Wk e n k u v L) (hm : ∀ a b, a < n → b < n → 1 ≤ e a b → Cn e' n a b) : Cn e' n u v := by
  induction h with
  | nil h => exact .refl h
  | cons h1 h2 h3 ih => exact (hm _ _ h1 h3.lt_l h2).trans ih
theorem Cn.reroute {u v : Nat} (h : Cn e n u v) (hm : ∀ a b, a < n → b < n → 1 ≤ e a b → Cn e' n a b) : Cn e' n u v := by
  obtain ⟨k, L, h⟩ := h
  exact h.reroute hm
theorem Cn.mono {u v : Nat} (h : Cn e n u v) (hm : ∀ a b, 1 ≤ e a b → 1 ≤ e' a b) : Cn e' n u v := h.reroute fun a b ha hb hab => .one ha hb (hm a b hab)
/-- with one edge more -/
theorem Cn.add {x y u v : Nat} (h : Cn e' n u v) (hx : x < n) (hy : y < n) (hm : ∀ a b, 1 ≤ e' a b → 1 ≤ e a b ∨ (a = x ∧ b = y) ∨ (a = y ∧ b = x)) :
    Cn e n u v ∨ (Cn e n u x ∧ Cn e n y v) ∨ (Cn e n u y ∧ Cn e n x v) := by
  obtain ⟨k, L, h⟩ := h
  induction h with
  | nil h => exact .inl (.refl h)
  | cons h1 h2 h3 ih =>
    rcases hm _ _ h2 with g | ⟨rfl, rfl⟩ | ⟨rfl, rfl⟩
    · have g' := Cn.one h1 h3.lt_l g
      rcases ih with i | ⟨i, j⟩ | ⟨i, j⟩
      · exact .inl (g'.trans i)
      · exact .inr (.inl ⟨g'.trans i, j⟩)
      · exact .inr (.inr ⟨g'.trans i, j⟩)
    · rcases ih with i | ⟨i, j⟩ | ⟨i, j⟩
      · exact .inr (.inl ⟨.refl h1, i⟩)
      · exact .inr (.inl ⟨.refl h1, j⟩)
      · exact .inl j
    · rcases ih with i | ⟨i, j⟩ | ⟨i, j⟩
      · exact .inr (.inr ⟨.refl h1, i⟩)
      · exact .inl j
      · exact .inr (.inr ⟨.refl h1, j⟩)
/-- longer edges, or fewer, give no shorter ways -/
theorem Wk.more {k u v : Nat} {L : Int} (h : Wk e n k u v L) (hm : ∀ a b, 1 ≤ e a b → 1 ≤ e' a b ∧ e' a b ≤ e a b) : ∃ M, Wk e' n k u v M ∧ M ≤ L := by
  induction h with
  | nil h => exact ⟨0, .nil h, Int.le_refl _⟩
  | cons h1 h2 h3 ih =>
    obtain ⟨M, i1, i2⟩ := ih
    obtain ⟨g1, g2⟩ := hm _ _ h2
    exact ⟨_, .cons h1 g1 i1, by omega⟩
/-- a way that is shorter than an edge does not go over it -/
theorem Wk.avoid {k u v : Nat} {L m : Int} (h : Wk e n k u v L) (hL : L < m) (hm : ∀ a b, 1 ≤ e a b → e a b < m → e' a b = e a b) : Wk e' n k u v L := by
  induction h with
  | nil h => exact .nil h
  | @cons a b c k L h1 h2 h3 ih =>
    have := h3.ge
    have he := hm a b h2 (by omega)
    rw [← he]
    exact .cons h1 (by omega) (ih (by omega))
end

section
variable {n : Nat} {rs qs : List (Int × Int × Int)}
/-- a road joins two towns -/
def joins (r : Int × Int × Int) (a b : Int) : Prop := r.1 = min a b ∧ r.2.1 = max a b
theorem joins_comm {r : Int × Int × Int} {a b : Int} (h : joins r a b) : joins r b a := by
  unfold joins at *; rw [Int.min_comm, Int.max_comm]; exact h
theorem get3 (rs : List (Int × Int × Int)) (k : Nat) : rs.getD k (0, 0, 0) = (a3 rs k, b3 rs k, c3 rs k) := rfl
theorem mem3 {r : Int × Int × Int} : r ∈ rs ↔ ∃ k, k < rs.length ∧ rs.getD k (0, 0, 0) = r := by
  rw [List.mem_iff_getElem]
  constructor
  · rintro ⟨k, h, rfl⟩
    exact ⟨k, h, by simp [h]⟩
  · rintro ⟨k, h, rfl⟩
    exact ⟨k, h, by simp [h]⟩
theorem RV.edge_mem (h : RV n rs) {r : Int × Int × Int} (hr : r ∈ rs) {a b : Int} (hj : joins r a b) : edge rs a b = r.2.2 ∧ 1 ≤ r.2.2 := by
  obtain ⟨k, hk, rfl⟩ := mem3.1 hr
  have h1 : hit rs a b k = true := hit_iff.2 hj
  unfold edge edgeTo
  rw [h.find_hit hk (Nat.le_refl _) h1, if_pos (by omega)]
  exact ⟨rfl, (h.road k hk).2.2.2.1⟩
theorem RV.edge_from (_h : RV n rs) {a b : Int} (he : 0 ≤ edge rs a b) : ∃ r, r ∈ rs ∧ joins r a b ∧ edge rs a b = r.2.2 := by
  rcases edge_cases rs a b with ⟨h2, _, _⟩ | ⟨j, h2, _, h3, h4⟩
  · omega
  · exact ⟨_, mem3.2 ⟨j, h2, rfl⟩, hit_iff.1 h3, h4⟩
theorem RV.edge_iff (h : RV n rs) {a b : Int} : 1 ≤ edge rs a b ↔ ∃ r, r ∈ rs ∧ joins r a b := by
  constructor
  · intro he
    obtain ⟨r, h1, h2, _⟩ := h.edge_from (a := a) (b := b) (by omega)
    exact ⟨r, h1, h2⟩
  · rintro ⟨r, h1, h2⟩
    obtain ⟨h3, h4⟩ := h.edge_mem h1 h2
    omega
/-- the edges are told by which roads there are -/
theorem RV.edge_sub (h : RV n rs) (g : RV n qs) (hs : ∀ r, r ∈ qs → r ∈ rs) (a b : Int) (he : 0 ≤ edge qs a b) : edge rs a b = edge qs a b := by
  obtain ⟨r, h1, h2, h3⟩ := g.edge_from he
  rw [h3]
  exact (h.edge_mem (hs r h1) h2).1
theorem RV.edge_same (h : RV n rs) (g : RV n qs) (hs : ∀ r, r ∈ qs ↔ r ∈ rs) (a b : Int) : edge rs a b = edge qs a b := by
  by_cases he : 0 ≤ edge qs a b
  · exact h.edge_sub g (fun r => (hs r).1) a b he
  · have h1 := g.edge_le a b
    have h2 := h.edge_le a b
    by_cases hf : 0 ≤ edge rs a b
    · exact (g.edge_sub h (fun r => (hs r).2) a b hf).symm
    · omega
theorem RV.far_same (h : RV n rs) (g : RV n qs) (hs : ∀ r, r ∈ qs ↔ r ∈ rs) {a b : Nat} (ha : a < n) (hb : b < n) : dist n rs a b = dist n qs a b := by
  have e : eN rs = eN qs := by funext x y; exact h.edge_same g hs x y
  rcases h.dist_at ha hb with ⟨h1, h2⟩ | ⟨h0, h1, h2⟩
  · rcases g.dist_at ha hb with ⟨g1, g2⟩ | ⟨g0, g1, g2⟩
    · rw [h1, g1]
    · rw [e] at h2
      obtain ⟨⟨k, w⟩, _⟩ := g2
      exact absurd w (h2 _ _)
  · rcases g.dist_at ha hb with ⟨g1, g2⟩ | ⟨g0, g1, g2⟩
    · rw [e] at h2
      obtain ⟨⟨k, w⟩, _⟩ := h2
      exact absurd w (g2 _ _)
    · rw [e] at h2
      exact h2.unique g2
theorem RV.dist_ge_iff (h : RV n rs) {a b : Nat} (ha : a < n) (hb : b < n) : 0 ≤ dist n rs a b ↔ Cn (eN rs) n a b := by
  rcases h.dist_at ha hb with ⟨h1, h2⟩ | ⟨h0, h1, h2⟩
  · rw [noWay_iff] at h2
    exact ⟨fun g => by omega, fun g => absurd g h2⟩
  · obtain ⟨⟨k, w⟩, _⟩ := h2
    exact ⟨fun _ => ⟨_, _, w⟩, fun _ => h0⟩
theorem RV.dist_neg_iff (h : RV n rs) {a b : Nat} (ha : a < n) (hb : b < n) : dist n rs a b < 0 ↔ ¬ Cn (eN rs) n a b := by
  rw [← h.dist_ge_iff ha hb]; omega
theorem RV.dist_is (h : RV n rs) {a b : Nat} (ha : a < n) (hb : b < n) (hd : 0 ≤ dist n rs a b) : IsD (eN rs) n a b (dist n rs a b) := by
  rcases h.dist_at ha hb with ⟨h1, h2⟩ | ⟨h0, h1, h2⟩
  · omega
  · exact h2
theorem RV.dist_comm (h : RV n rs) {a b : Nat} (ha : a < n) (hb : b < n) : dist n rs a b = dist n rs b a := by
  rcases h.dist_at ha hb with ⟨h1, h2⟩ | ⟨h0, h1, h2⟩
  · rcases h.dist_at hb ha with ⟨g1, g2⟩ | ⟨g0, g1, g2⟩
    · rw [h1, g1]
    · obtain ⟨⟨k, w⟩, _⟩ := g2
      exact absurd w ((h2.rev (eN_comm rs)) _ _)
  · rcases h.dist_at hb ha with ⟨g1, g2⟩ | ⟨g0, g1, g2⟩
    · obtain ⟨⟨k, w⟩, _⟩ := h2
      exact absurd w ((g2.rev (eN_comm rs)) _ _)
    · exact h2.unique (g2.rev (eN_comm rs))

/-- the roads at some indexes -/
def pick3 (rs : List (Int × Int × Int)) (is : List Nat) : List (Int × Int × Int) := is.map fun i => rs.getD i (0, 0, 0)
theorem pick3_at (rs : List (Int × Int × Int)) (is : List Nat) (k : Nat) (hk : k < is.length) : (pick3 rs is).getD k (0, 0, 0) = rs.getD (is.getD k 0) (0, 0, 0) := by
  unfold pick3
  rw [List.getD_eq_getElem?_getD, List.getElem?_map, List.getElem?_eq_getElem hk, List.getD_eq_getElem?_getD (l := is), List.getElem?_eq_getElem hk]
  rfl
theorem RV.pick (h : RV n rs) {is : List Nat} (hi : ∀ i ∈ is, i < rs.length) (hn : is.Nodup) : RV n (pick3 rs is) := by
  have hlen : (pick3 rs is).length = is.length := by simp [pick3]
  have hat : ∀ k, k < is.length → is.getD k 0 < rs.length := fun k hk => hi _ (by rw [List.getD_eq_getElem?_getD, List.getElem?_eq_getElem hk]; simp)
  have hp := pigeon rs.length is hn hi
  refine ⟨h.n1, h.n8, by rw [hlen]; have := h.l16; omega, fun k hk => ?_, fun j k hj hk => ?_⟩
  · rw [hlen] at hk
    have := h.road _ (hat k hk)
    unfold a3 b3 c3 at *
    rw [pick3_at _ _ _ hk]
    exact this
  · rw [hlen] at hk
    have hne : is.getD j 0 ≠ is.getD k 0 := fun e => by
      rw [List.getD_eq_getElem?_getD, List.getD_eq_getElem?_getD, List.getElem?_eq_getElem (show j < is.length by omega), List.getElem?_eq_getElem hk] at e
      have := (List.pairwise_iff_getElem.1 hn) j k (by omega) hk hj
      exact this e
    unfold a3 b3
    rw [pick3_at _ _ _ hk, pick3_at _ _ _ (by omega)]
    intro e
    rcases Nat.lt_or_gt_of_ne hne with c | c
    · exact h.apart _ _ c (hat k hk) e
    · exact h.apart _ _ c (hat j (by omega)) ⟨e.1.symm, e.2.symm⟩
theorem mem_pick3 {is : List Nat} {r : Int × Int × Int} : r ∈ pick3 rs is ↔ ∃ i, i ∈ is ∧ rs.getD i (0, 0, 0) = r := by
  unfold pick3; rw [List.mem_map]
/-- two roads at different indexes are different -/
theorem RV.at_inj (h : RV n rs) {i j : Nat} (hi : i < rs.length) (hj : j < rs.length) (e : rs.getD i (0, 0, 0) = rs.getD j (0, 0, 0)) : i = j := by
  rcases Nat.lt_trichotomy i j with c | c | c
  · exact absurd ⟨congrArg (·.1) e, congrArg (·.2.1) e⟩ (h.apart i j c hj)
  · exact c
  · exact absurd ⟨(congrArg (·.1) e).symm, (congrArg (·.2.1) e).symm⟩ (h.apart j i c hi)
/-- two roads that join the same towns are one -/
theorem RV.join_one (h : RV n rs) {r s : Int × Int × Int} (hr : r ∈ rs) (hs : s ∈ rs) {a b : Int} (h1 : joins r a b) (h2 : joins s a b) : r = s := by
  obtain ⟨i, hi, rfl⟩ := mem3.1 hr
  obtain ⟨j, hj, rfl⟩ := mem3.1 hs
  have := h.hit_one hi hj (hit_iff.2 h1) (hit_iff.2 h2)
  rw [this]
/-- the roads without one -/
def lessR (rs : List (Int × Int × Int)) (k : Nat) : List (Int × Int × Int) := rs.take k ++ rs.drop (k + 1)
theorem without_len (k : Nat) (hk : k < rs.length) : (lessR rs k).length = rs.length - 1 := by
  unfold lessR; rw [List.length_append, List.length_take, List.length_drop]; omega
theorem without_at (k j : Nat) (hk : k < rs.length) : (lessR rs k).getD j (0, 0, 0) = rs.getD (if j < k then j else j + 1) (0, 0, 0) := by
  unfold lessR
  rw [List.getD_eq_getElem?_getD]
  by_cases h : j < k
  · rw [if_pos h, List.getElem?_append_left (by rw [List.length_take]; omega), List.getElem?_take_of_lt h, List.getD_eq_getElem?_getD]
  · rw [if_neg h, List.getElem?_append_right (by rw [List.length_take]; omega), List.length_take, List.getElem?_drop, List.getD_eq_getElem?_getD]
    congr 2
    omega
theorem RV.without (h : RV n rs) {k : Nat} (hk : k < rs.length) : RV n (lessR rs k) := by
  have hl := without_len k hk
  refine ⟨h.n1, h.n8, by have := h.l16; omega, fun j hj => ?_, fun i j hi hj => ?_⟩
  · unfold a3 b3 c3
    rw [without_at k j hk]
    exact h.road _ (by split <;> omega)
  · unfold a3 b3
    rw [without_at k j hk, without_at k i hk]
    exact h.apart _ _ (by split <;> split <;> omega) (by split <;> omega)
theorem RV.mem_without (h : RV n rs) {k : Nat} (hk : k < rs.length) {r : Int × Int × Int} : r ∈ lessR rs k ↔ r ∈ rs ∧ r ≠ rs.getD k (0, 0, 0) := by
  constructor
  · intro hr
    obtain ⟨j, hj, rfl⟩ := mem3.1 hr
    rw [without_len k hk] at hj
    rw [without_at k j hk]
    refine ⟨mem3.2 ⟨_, by split <;> omega, rfl⟩, fun e => ?_⟩
    have := h.at_inj (by split <;> omega) hk e
    split at this <;> omega
  · rintro ⟨hr, hne⟩
    obtain ⟨j, hj, rfl⟩ := mem3.1 hr
    have hjk : j ≠ k := fun e => hne (by rw [e])
    refine mem3.2 ⟨if j < k then j else j - 1, by rw [without_len k hk]; split <;> omega, ?_⟩
    rw [without_at k _ hk]
    congr 1
    by_cases c : j < k
    · rw [if_pos c, if_pos c]
    · rw [if_neg c, if_neg (by omega)]; omega
end
end Go.Proofs.Ytdnjeahbnidefaa

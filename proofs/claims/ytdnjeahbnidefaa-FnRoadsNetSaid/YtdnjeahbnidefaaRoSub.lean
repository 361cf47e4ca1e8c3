/- Plain laws: roads with one more, with one less; FnRoadsClose, FnRoadsAdd. No program is named here. -/
import Derived.Test.YtdnjeahbnidefaaRoCl
import Derived.Test.YtdnjeahbnidefaaRo9
import Derived.Test.YtdnjeahbnidefaaRo5
namespace Go.Proofs.Ytdnjeahbnidefaa
open Go.RowKit

section
variable {n : Nat} {rs qs : List (Int × Int × Int)}
/-- with more roads nothing is farther -/
theorem RV.dist_sub (h : RV n rs) (g : RV n qs) (hs : ∀ r, r ∈ qs → r ∈ rs) {a b : Nat} (ha : a < n) (hb : b < n) (hd : 0 ≤ dist n qs a b) : 0 ≤ dist n rs a b ∧ dist n rs a b ≤ dist n qs a b := by
  obtain ⟨⟨k, wk⟩, _⟩ := g.dist_is ha hb hd
  obtain ⟨M, wm, hM⟩ := wk.more (e' := eN rs) (fun x y hxy => by
    have he : eN rs x y = eN qs x y := h.edge_sub g hs x y (by unfold eN at hxy; omega)
    omega)
  have h0 := (h.dist_ge_iff ha hb).2 ⟨_, _, wm⟩
  have := (h.dist_is ha hb h0).2 _ _ wm
  exact ⟨h0, by omega⟩
theorem getD_snoc (qs : List (Int × Int × Int)) (r : Int × Int × Int) : (qs ++ [r]).getD qs.length (0, 0, 0) = r := by simp [List.getD_eq_getElem?_getD]
/-- one road more -/
theorem RV.snoc (g : RV n qs) {r : Int × Int × Int} (hl : qs.length + 1 ≤ 16) (hr : 0 ≤ r.1 ∧ r.1 < r.2.1 ∧ r.2.1 < n ∧ 1 ≤ r.2.2 ∧ r.2.2 ≤ 99) (hap : ∀ q, q ∈ qs → ¬ (q.1 = r.1 ∧ q.2.1 = r.2.1)) : RV n (qs ++ [r]) := by
  have hlen : (qs ++ [r]).length = qs.length + 1 := by simp
  refine ⟨g.n1, g.n8, by omega, fun k hk => ?_, fun j k hj hk => ?_⟩
  · by_cases e : k = qs.length
    · subst e
      unfold a3 b3 c3
      rw [getD_snoc]
      exact hr
    · have := g.road k (by omega)
      unfold a3 b3 c3 at this ⊢
      rw [getD_left (by omega)]
      exact this
  · by_cases e : k = qs.length
    · subst e
      unfold a3 b3
      rw [getD_snoc, getD_left hj]
      exact hap _ (mem3.2 ⟨j, hj, rfl⟩)
    · have := g.apart j k hj (by omega)
      unfold a3 b3 at this ⊢
      rw [getD_left (by omega), getD_left (by omega)]
      exact this
/-- a road that is closed and built again -/
theorem RV.back (h : RV n rs) {k : Nat} (hk : k < rs.length) : RV n (lessR rs k ++ [rs.getD k (0, 0, 0)]) := by
  have g := h.without hk
  have hr := h.road k hk
  refine g.snoc (by rw [without_len k hk]; have := h.l16; omega) hr (fun q hq => ?_)
  rw [h.mem_without hk] at hq
  obtain ⟨hm, hne⟩ := hq
  intro hj
  refine hne (h.join_one hm (mem3.2 ⟨k, hk, rfl⟩) (a := (rs.getD k (0, 0, 0)).1) (b := (rs.getD k (0, 0, 0)).2.1) ⟨by have : a3 rs k < b3 rs k := hr.2.1; unfold a3 b3 at this; omega, by have : a3 rs k < b3 rs k := hr.2.1; unfold a3 b3 at this; omega⟩ ⟨by have : a3 rs k < b3 rs k := hr.2.1; unfold a3 b3 at this; omega, by have : a3 rs k < b3 rs k := hr.2.1; unfold a3 b3 at this; omega⟩)
theorem RV.mem_back (h : RV n rs) {k : Nat} (hk : k < rs.length) (r : Int × Int × Int) : r ∈ lessR rs k ++ [rs.getD k (0, 0, 0)] ↔ r ∈ rs := by
  rw [List.mem_append, h.mem_without hk, List.mem_singleton]
  constructor
  · rintro (⟨g, _⟩ | g)
    · exact g
    · exact mem3.2 ⟨k, hk, g.symm⟩
  · intro g
    by_cases e : r = rs.getD k (0, 0, 0)
    · exact .inr e
    · exact .inl ⟨g, e⟩
theorem hit_joins {a b : Int} {k : Nat} (h : hit rs a b k = true) : joins (rs.getD k (0, 0, 0)) a b := hit_iff.1 h
/-- without the road that joins two towns no road joins them -/
theorem RV.without_edge (h : RV n rs) {a b : Int} {k : Nat} (hk : k < rs.length) (hh : hit rs a b k = true) : edge (lessR rs k) a b = -1 := by
  have g := h.without hk
  refine Classical.byContradiction fun hne => ?_
  have h0 : 0 ≤ edge (lessR rs k) a b := by have := (g.edge_le a b).2; omega
  obtain ⟨r, hr, hj, _⟩ := g.edge_from h0
  rw [h.mem_without hk] at hr
  exact hr.2 (h.join_one hr.1 (mem3.2 ⟨k, hk, rfl⟩) hj (hit_joins hh))
/-- the law of FnRoadsClose -/
theorem close_law (h : RV n rs) {s t k : Nat} (hs : s < n) (ht : t < n) (hk : k < rs.length) (hh : hit rs s t k = true) :
    direct n (lessR rs k) s t = -1 ∧ (dist n (lessR rs k) s t = -1 ∨ dist n rs s t ≤ dist n (lessR rs k) s t) ∧ roadsValid n (lessR rs k ++ [(min (s : Int) t, max (s : Int) t, c3 rs k)]) = true ∧ (lessR rs k ++ [(min (s : Int) t, max (s : Int) t, c3 rs k)]).length = rs.length ∧ dist n (lessR rs k ++ [(min (s : Int) t, max (s : Int) t, c3 rs k)]) s t = dist n rs s t := by
  have g := h.without hk
  have hb := h.back hk
  have he : (min (s : Int) t, max (s : Int) t, c3 rs k) = rs.getD k (0, 0, 0) := by
    have := hit_iff.1 hh
    rw [← this.1, ← this.2]
    rfl
  refine ⟨?_, ?_, ?_, ?_, ?_⟩
  · rw [direct, if_pos (roadsValid_of g)]
    exact h.without_edge hk hh
  · by_cases h0 : 0 ≤ dist n (lessR rs k) s t
    · exact .inr (h.dist_sub g (fun r hr => ((h.mem_without hk).1 hr).1) hs ht h0).2
    · left
      rcases g.dist_at hs ht with ⟨e, _⟩ | ⟨e, _⟩
      · exact e
      · omega
  · rw [he]; exact roadsValid_of hb
  · rw [List.length_append, without_len k hk]; simp; omega
  · rw [he]
    exact (h.far_same hb (fun r => (h.mem_back hk r)) hs ht).symm
/-- the sum of all miles -/
def sumC (rs : List (Int × Int × Int)) : Int := rs.foldr (fun r s => r.2.2 + s) 0
def roadsLength (n : Int) (rs : List (Int × Int × Int)) : Int := if roadsValid n rs = true then sumC rs else -1
theorem sumC_step (rs : List (Int × Int × Int)) (k : Nat) (h : k < rs.length) : sumC (rs.drop k) = c3 rs k + sumC (rs.drop (k + 1)) := by
  rw [drop_at rs k (0, 0, 0) h]; rfl
theorem sumC_snoc (rs : List (Int × Int × Int)) (r : Int × Int × Int) : sumC (rs ++ [r]) = sumC rs + r.2.2 := by
  unfold sumC
  induction rs with
  | nil => simp
  | cons x xs ih => simp only [List.cons_append, List.foldr_cons, ih]; omega
/-- the law of FnRoadsAdd -/
theorem add_law {A B M : Int} (h : RV n (rs ++ [(A, B, M)])) {s t : Nat} (hs : s < n) (ht : t < n) :
    RV n rs ∧ 0 ≤ A ∧ A < n ∧ 0 ≤ B ∧ B < n ∧ 1 ≤ M ∧ direct n (rs ++ [(A, B, M)]) A B = M ∧ roadsClose n (rs ++ [(A, B, M)]) A B = rs ∧ roadsFar n (rs ++ [(A, B, M)]) A B ≤ M ∧ (0 ≤ dist n rs s t → 0 ≤ dist n (rs ++ [(A, B, M)]) s t ∧ dist n (rs ++ [(A, B, M)]) s t ≤ dist n rs s t) ∧ roadsLength n (rs ++ [(A, B, M)]) = roadsLength n rs + M := by
  have hlen : (rs ++ [(A, B, M)]).length = rs.length + 1 := by simp
  have hkl : rs.length < (rs ++ [(A, B, M)]).length := by omega
  have g : RV n rs := by
    cases hv : roadsValid n rs
    · have := roadsValid_snoc_f (r := (A, B, M)) hv
      rw [roadsValid_of h] at this
      cases this
    · obtain ⟨m, e, g⟩ := roadsValid_t hv
      obtain rfl : n = m := by omega
      exact g
  have hr := h.road rs.length hkl
  have ha3 : a3 (rs ++ [(A, B, M)]) rs.length = A := by unfold a3; rw [getD_snoc]
  have hb3 : b3 (rs ++ [(A, B, M)]) rs.length = B := by unfold b3; rw [getD_snoc]
  have hc3 : c3 (rs ++ [(A, B, M)]) rs.length = M := by unfold c3; rw [getD_snoc]
  have he := h.edge_road hkl
  have hh := h.hit_self hkl
  rw [ha3, hb3, hc3] at hr he
  rw [ha3, hb3] at hh
  have hfind : find1 (rs ++ [(A, B, M)]) A B = (rs.length : Int) := h.find_hit hkl (Nat.le_refl _) hh
  have hd : direct n (rs ++ [(A, B, M)]) A B = M := by rw [direct, if_pos (roadsValid_of h)]; exact he
  obtain ⟨h1, h2, h3, h4, h5⟩ := hr
  refine ⟨g, h1, by omega, by omega, h3, h4, hd, ?_, ?_, fun h0 => h.dist_sub g (fun r hr => List.mem_append_left _ hr) hs ht h0, ?_⟩
  · rw [roadsClose_t (by omega) hfind, lessR, List.take_left, List.drop_eq_nil_of_le (by omega), List.append_nil]
  · obtain ⟨a, rfl⟩ := Int.eq_ofNat_of_zero_le h1
    obtain ⟨b, rfl⟩ := Int.eq_ofNat_of_zero_le (show 0 ≤ B by omega)
    rw [roadsFar_in (roadsValid_of h) (by omega) (by omega)]
    have hw := Wk.one (e := eN (rs ++ [((a : Int), (b : Int), M)])) (n := n) (a := a) (b := b) (by omega) (by omega) (by unfold eN; omega)
    have h0 := (h.dist_ge_iff (by omega) (by omega)).2 ⟨_, _, hw⟩
    have := (h.dist_is (by omega) (by omega) h0).2 _ _ hw
    unfold eN at this
    omega
  · rw [roadsLength, roadsLength, if_pos (roadsValid_of h), if_pos (roadsValid_of g), sumC_snoc]
end
end Go.Proofs.Ytdnjeahbnidefaa

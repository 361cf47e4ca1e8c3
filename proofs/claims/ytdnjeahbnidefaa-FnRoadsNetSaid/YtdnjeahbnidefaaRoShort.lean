/- Plain laws: the towns with which shortest ways go on, the shortest way. No program is named here. -/
import Derived.Test.YtdnjeahbnidefaaRoSub
namespace Go.Proofs.Ytdnjeahbnidefaa
open Go.RowKit

/-- a shortest way to b goes on from a to v -/
def nx (n : Nat) (rs : List (Int × Int × Int)) (b a v : Nat) : Bool := decide (1 ≤ eN rs a v) && decide (eN rs a v + dist n rs b v = dist n rs b a)
def nxs (n : Nat) (rs : List (Int × Int × Int)) (b a : Nat) : List Nat := (List.range n).filter (nx n rs b a)
/-- the least of them -/
def first (n : Nat) (rs : List (Int × Int × Int)) (b a : Nat) : Nat := (nxs n rs b a).getD 0 0
theorem mem_nxs {n : Nat} {rs : List (Int × Int × Int)} {b a v : Nat} : v ∈ nxs n rs b a ↔ v < n ∧ nx n rs b a v = true := by
  unfold nxs
  rw [List.mem_filter, List.mem_range]
theorem nxs_asc (n : Nat) (rs : List (Int × Int × Int)) (b a : Nat) : (nxs n rs b a).Pairwise (· < ·) := List.pairwise_lt_range.filter _
theorem nxs_len (n : Nat) (rs : List (Int × Int × Int)) (b a : Nat) : (nxs n rs b a).length ≤ n := by
  unfold nxs
  have := List.length_filter_le (nx n rs b a) (List.range n)
  simpa using this
theorem nx_iff {n : Nat} {rs : List (Int × Int × Int)} {b a v : Nat} : nx n rs b a v = true ↔ 1 ≤ eN rs a v ∧ eN rs a v + dist n rs b v = dist n rs b a := by
  unfold nx
  rw [Bool.and_eq_true, decide_eq_true_eq, decide_eq_true_eq]
theorem head_least {l : List Nat} (h : l.Pairwise (· < ·)) (hn : 0 < l.length) : l.getD 0 0 ∈ l ∧ ∀ v ∈ l, l.getD 0 0 ≤ v := by
  cases l with
  | nil => simp at hn
  | cons x xs =>
    rw [List.pairwise_cons] at h
    refine ⟨by simp, fun v hv => ?_⟩
    rcases List.mem_cons.1 hv with e | e
    · rw [e]; exact Nat.le_refl _
    · exact Nat.le_of_lt (h.1 v e)
section
variable {n : Nat} {rs : List (Int × Int × Int)}
/-- behind a step the rest is shorter -/
theorem RV.nx_less (h : RV n rs) {b a v : Nat} (hb : b < n) (ha : a < n) (h0 : 0 ≤ dist n rs b a) (hx : nx n rs b a v = true) : v < n ∧ 0 ≤ dist n rs b v ∧ dist n rs b v < dist n rs b a ∧ a ≠ v := by
  obtain ⟨h1, h2⟩ := nx_iff.1 hx
  obtain ⟨_, _, _, _, v0, vn, hne⟩ := h.edge_pos (show 0 ≤ edge rs a v from by unfold eN at h1; omega)
  have hv : v < n := by omega
  have hc := ((h.dist_ge_iff hb ha).1 h0).trans (Cn.one ha hv h1)
  have := (h.dist_ge_iff hb hv).2 hc
  exact ⟨hv, this, by omega, by omega⟩
theorem RV.dist_zero (h : RV n rs) {b a : Nat} (hb : b < n) (ha : a < n) (h0 : dist n rs b a = 0) : a = b := by
  obtain ⟨⟨k, wk⟩, _⟩ := h.dist_is hb ha (by omega)
  exact (wk.zero (by omega)).2.1.symm
theorem RV.dist_self (h : RV n rs) {b : Nat} (hb : b < n) : dist n rs b b = 0 := by
  have h0 := (h.dist_ge_iff hb hb).2 (Cn.refl hb)
  exact (h.dist_is hb hb h0).unique (IsD.self hb)
/-- a town from which there is a way to another one has a step -/
theorem RV.nx_ex (h : RV n rs) {b a : Nat} (hb : b < n) (ha : a < n) (h0 : 0 ≤ dist n rs b a) (hne : a ≠ b) : ∃ v, v < n ∧ nx n rs b a v = true := by
  have hcm := h.dist_comm ha hb
  have hD := h.dist_is ha hb (by omega)
  obtain ⟨⟨k, wk⟩, hmin⟩ := hD
  rcases wk.cases with ⟨_, e, _⟩ | ⟨x, j, M, _, h1, h2, h3⟩
  · exact absurd e hne
  · have hx := h2.lt_l
    have hx0 := (h.dist_ge_iff hx hb).2 ⟨_, _, h2⟩
    obtain ⟨⟨q, wq⟩, hm2⟩ := h.dist_is hx hb hx0
    have h4 := hm2 _ _ h2
    have h5 := hmin _ _ (Wk.cons ha h1 wq)
    have hcx := h.dist_comm hx hb
    exact ⟨x, hx, nx_iff.2 ⟨h1, by omega⟩⟩
theorem RV.first_at (h : RV n rs) {b a : Nat} (hb : b < n) (ha : a < n) (h0 : 0 ≤ dist n rs b a) (hne : a ≠ b) : first n rs b a < n ∧ nx n rs b a (first n rs b a) = true ∧ (∀ v, v < first n rs b a → nx n rs b a v = false) ∧ 0 < (nxs n rs b a).length := by
  obtain ⟨v, hv, hx⟩ := h.nx_ex hb ha h0 hne
  have hmem := mem_nxs.2 ⟨hv, hx⟩
  have hl := List.length_pos_of_mem hmem
  obtain ⟨g1, g2⟩ := head_least (nxs_asc n rs b a) hl
  obtain ⟨g3, g4⟩ := mem_nxs.1 g1
  refine ⟨g3, g4, fun u hu => ?_, hl⟩
  cases hq : nx n rs b a u
  · rfl
  · have h5 : first n rs b a ≤ u := g2 u (mem_nxs.2 ⟨Nat.lt_trans hu g3, hq⟩)
    omega
/-- the shortest way with the least towns -/
def wayN (n : Nat) (rs : List (Int × Int × Int)) (b : Nat) : Nat → Nat → List Nat
  | 0, a => [a]
  | f + 1, a => if a = b then [a] else a :: wayN n rs b f (first n rs b a)
theorem wayN_end (n : Nat) (rs : List (Int × Int × Int)) (b : Nat) : ∀ f, wayN n rs b f b = [b] := by
  intro f
  cases f with
  | zero => rfl
  | succ f => rw [wayN, if_pos rfl]
theorem wayN_step {b f a : Nat} (h : a ≠ b) : wayN n rs b (f + 1) a = a :: wayN n rs b f (first n rs b a) := by rw [wayN, if_neg h]
theorem RV.fuel_pos (h : RV n rs) {b a f : Nat} (hb : b < n) (ha : a < n) (h0 : 0 ≤ dist n rs b a) (hf : (dist n rs b a).toNat ≤ f) (hne : a ≠ b) : ∃ g, f = g + 1 := by
  have : dist n rs b a ≠ 0 := fun e => hne (h.dist_zero hb ha e)
  exact ⟨f - 1, by omega⟩
theorem RV.wayN_fuel (h : RV n rs) {b : Nat} (hb : b < n) : ∀ (f g a : Nat), a < n → 0 ≤ dist n rs b a → (dist n rs b a).toNat ≤ f → (dist n rs b a).toNat ≤ g → wayN n rs b f a = wayN n rs b g a := by
  intro f
  induction f with
  | zero =>
    intro g a ha h0 hf _
    obtain rfl := h.dist_zero hb ha (by omega)
    rw [wayN_end, wayN_end]
  | succ f ih =>
    intro g a ha h0 hf hg
    by_cases hab : a = b
    · subst hab; rw [wayN_end, wayN_end]
    · obtain ⟨g, rfl⟩ := h.fuel_pos hb ha h0 hg hab
      obtain ⟨h1, h2, _⟩ := h.first_at hb ha h0 hab
      obtain ⟨_, h3, h4, _⟩ := h.nx_less hb ha h0 h2
      rw [wayN_step hab, wayN_step hab, ih g _ h1 h3 (by omega) (by omega)]
theorem getD_cons_succ' (x : Nat) (xs : List Nat) (i : Nat) : (x :: xs).getD (i + 1) 0 = xs.getD i 0 := by simp [List.getD_eq_getElem?_getD]
/-- what the way is -/
theorem RV.wayN_is (h : RV n rs) {b : Nat} (hb : b < n) : ∀ (f a : Nat), a < n → 0 ≤ dist n rs b a → (dist n rs b a).toNat ≤ f →
    1 ≤ (wayN n rs b f a).length ∧ (wayN n rs b f a).getD 0 0 = a ∧ (wayN n rs b f a).getD ((wayN n rs b f a).length - 1) 0 = b ∧ (∀ i, i < (wayN n rs b f a).length → (wayN n rs b f a).getD i 0 < n ∧ 0 ≤ dist n rs b ((wayN n rs b f a).getD i 0)) ∧ (∀ i, i + 1 < (wayN n rs b f a).length → nx n rs b ((wayN n rs b f a).getD i 0) ((wayN n rs b f a).getD (i + 1) 0) = true) ∧ ((wayN n rs b f a).length : Int) ≤ dist n rs b a + 1 := by
  intro f
  induction f with
  | zero =>
    intro a ha h0 hf
    obtain rfl := h.dist_zero hb ha (by omega)
    rw [wayN_end]
    refine ⟨by simp, rfl, rfl, fun i hi => ?_, fun i hi => by simp at hi, by simp; omega⟩
    obtain rfl : i = 0 := by simp at hi; omega
    exact ⟨ha, h0⟩
  | succ f ih =>
    intro a ha h0 hf
    by_cases hab : a = b
    · subst hab
      rw [wayN_end]
      refine ⟨by simp, rfl, rfl, fun i hi => ?_, fun i hi => by simp at hi, by simp; omega⟩
      obtain rfl : i = 0 := by simp at hi; omega
      exact ⟨ha, h0⟩
    · obtain ⟨h1, h2, _⟩ := h.first_at hb ha h0 hab
      obtain ⟨_, h3, h4, _⟩ := h.nx_less hb ha h0 h2
      obtain ⟨i1, i2, i3, i4, i5, i6⟩ := ih _ h1 h3 (by omega)
      rw [wayN_step hab]
      obtain ⟨W, hW⟩ : ∃ W, wayN n rs b f (first n rs b a) = W := ⟨_, rfl⟩
      rw [hW] at i1 i2 i3 i4 i5 i6 ⊢
      refine ⟨by simp, rfl, ?_, fun i hi => ?_, fun i hi => ?_, ?_⟩
      · rw [List.length_cons, Nat.add_sub_cancel]
        obtain ⟨j, hj⟩ : ∃ j, W.length = j + 1 := ⟨W.length - 1, by omega⟩
        rw [hj, getD_cons_succ']
        rw [hj] at i3
        exact i3
      · cases i with
        | zero => exact ⟨ha, h0⟩
        | succ i => rw [getD_cons_succ']; exact i4 i (by simpa using hi)
      · cases i with
        | zero => rw [getD_cons_succ', i2]; exact h2
        | succ i => rw [getD_cons_succ', getD_cons_succ']; exact i5 i (by simpa using hi)
      · rw [List.length_cons]
        push_cast
        omega
/-- what RoadsWay returns -/
def castL (xs : List Nat) : List Int := xs.map fun (x : Nat) => (x : Int)
theorem castL_len (xs : List Nat) : (castL xs).length = xs.length := by simp [castL]
theorem castL_at (xs : List Nat) (i : Nat) : a1 (castL xs) i = (xs.getD i 0 : Nat) := by
  unfold a1 castL
  rw [List.getD_eq_getElem?_getD, List.getD_eq_getElem?_getD, List.getElem?_map]
  cases xs[i]? <;> rfl
theorem castL_snoc (xs : List Nat) (x : Nat) : castL (xs ++ [x]) = castL xs ++ [(x : Int)] := by simp [castL]
def wayTown (n : Nat) (rs : List (Int × Int × Int)) (a b : Nat) : List Nat := wayN n rs b (dist n rs b a).toNat a
def roadsWay (n : Int) (rs : List (Int × Int × Int)) (a b : Int) : List Int := if 0 ≤ roadsFar n rs a b then castL (wayTown n.toNat rs a.toNat b.toNat) else []
theorem roadsWay_f {n : Int} {rs : List (Int × Int × Int)} {a b : Int} (h : roadsFar n rs a b < 0) : roadsWay n rs a b = [] := by rw [roadsWay, if_neg (by omega)]
theorem roadsWay_t {n a b : Nat} {rs : List (Int × Int × Int)} (h : 0 ≤ roadsFar n rs a b) : roadsWay n rs a b = castL (wayTown n rs a b) := by rw [roadsWay, if_pos h]; rfl
theorem roadsFar_at {n : Int} {rs : List (Int × Int × Int)} {a b : Int} (h : 0 ≤ roadsFar n rs a b) : ∃ m s t : Nat, n = m ∧ a = s ∧ b = t ∧ s < m ∧ t < m ∧ RV m rs ∧ roadsValid n rs = true ∧ roadsFar n rs a b = dist m rs s t := by
  cases hv : roadsValid n rs
  · rw [roadsFar_v hv] at h; omega
  obtain ⟨m, rfl, hrv⟩ := roadsValid_t hv
  cases h1 : (decide (0 ≤ a) && decide (a < (m : Int)))
  · rw [roadsFar_a h1] at h; omega
  cases h2 : (decide (0 ≤ b) && decide (b < (m : Int)))
  · rw [roadsFar_b h2] at h; omega
  obtain ⟨s, rfl, hs⟩ := in_cases h1
  obtain ⟨t, rfl, ht⟩ := in_cases h2
  exact ⟨m, s, t, rfl, rfl, rfl, hs, ht, hrv, rfl, roadsFar_in hv hs ht⟩
theorem RV.wayTown_len (h : RV n rs) {a b : Nat} (hb : b < n) (ha : a < n) (h0 : 0 ≤ dist n rs b a) : 1 ≤ (wayTown n rs a b).length ∧ (wayTown n rs a b).length ≤ 801 := by
  obtain ⟨i1, _, _, _, _, i6⟩ := h.wayN_is hb _ a ha h0 (Nat.le_refl _)
  have : dist n rs b a ≤ 800 := by rcases h.dist_at hb ha with ⟨e, _⟩ | ⟨_, e, _⟩ <;> omega
  exact ⟨i1, by unfold wayTown; omega⟩
theorem roadsWay_le (n : Int) (rs : List (Int × Int × Int)) (a b : Int) : (roadsWay n rs a b).length ≤ 1048576 := by
  by_cases h : 0 ≤ roadsFar n rs a b
  · obtain ⟨m, s, t, rfl, rfl, rfl, hs, ht, hrv, hv, hf⟩ := roadsFar_at h
    rw [roadsWay_t h, castL_len]
    have := (hrv.wayTown_len ht hs (by rw [← hrv.dist_comm hs ht]; omega)).2
    omega
  · rw [roadsWay_f (by omega)]; simp
end
end Go.Proofs.Ytdnjeahbnidefaa

/- Plain laws: roads, the reference's distances. No program is named here. -/
import Derived.Test.YtdnjeahbnidefaaRoWay
namespace Go.Proofs.Ytdnjeahbnidefaa

/-- a road between two towns, in whatever order they are named -/
def hit (rs : List (Int × Int × Int)) (a b : Int) (k : Nat) : Bool := decide (a3 rs k = min a b) && decide (b3 rs k = max a b)
/-- the first road between two towns among the first k, or -1 -/
def findTo (rs : List (Int × Int × Int)) (a b : Int) : Nat → Int
  | 0 => -1
  | k + 1 => if 0 ≤ findTo rs a b k then findTo rs a b k else if hit rs a b k = true then (k : Int) else -1
def find1 (rs : List (Int × Int × Int)) (a b : Int) : Int := findTo rs a b rs.length
/-- the miles of the road between two towns, or -1 -/
def edgeTo (rs : List (Int × Int × Int)) (k : Nat) (a b : Int) : Int := if 0 ≤ findTo rs a b k then c3 rs (findTo rs a b k).toNat else -1
def edge (rs : List (Int × Int × Int)) (a b : Int) : Int := edgeTo rs rs.length a b
theorem hit_comm (rs : List (Int × Int × Int)) (a b : Int) (k : Nat) : hit rs a b k = hit rs b a k := by
  unfold hit; rw [Int.min_comm, Int.max_comm]
theorem findTo_comm (rs : List (Int × Int × Int)) (a b : Int) : ∀ k, findTo rs a b k = findTo rs b a k := by
  intro k
  induction k with
  | zero => rfl
  | succ k ih => rw [findTo, findTo, ih, hit_comm]
theorem edgeTo_comm (rs : List (Int × Int × Int)) (k : Nat) (a b : Int) : edgeTo rs k a b = edgeTo rs k b a := by
  unfold edgeTo; rw [findTo_comm]
theorem edge_comm (rs : List (Int × Int × Int)) (a b : Int) : edge rs a b = edge rs b a := edgeTo_comm _ _ _ _
theorem findTo_cases (rs : List (Int × Int × Int)) (a b : Int) : ∀ k, (findTo rs a b k = -1 ∧ ∀ j, j < k → hit rs a b j = false) ∨ ∃ j, j < k ∧ findTo rs a b k = (j : Int) ∧ hit rs a b j = true ∧ ∀ i, i < j → hit rs a b i = false := by
  intro k
  induction k with
  | zero => exact .inl ⟨rfl, fun j h => by omega⟩
  | succ k ih =>
    rcases ih with ⟨h1, h2⟩ | ⟨j, h1, h2, h3, h4⟩
    · rw [findTo, h1, if_neg (by omega)]
      cases hk : hit rs a b k
      · refine .inl ⟨by rw [if_neg (by simp)], fun j hj => ?_⟩
        by_cases e : j = k
        · subst e; exact hk
        · exact h2 j (by omega)
      · refine .inr ⟨k, by omega, by rw [if_pos rfl], hk, h2⟩
    · rw [findTo, h2, if_pos (by omega)]
      exact .inr ⟨j, by omega, rfl, h3, h4⟩
theorem findTo_at {rs : List (Int × Int × Int)} {a b : Int} {j k : Nat} (hj : j < k) (h : hit rs a b j = true) (hn : ∀ i, i < j → hit rs a b i = false) : findTo rs a b k = (j : Int) := by
  rcases findTo_cases rs a b k with ⟨_, h2⟩ | ⟨i, h1, h2, h3, h4⟩
  · rw [h2 j hj] at h; cases h
  · by_cases e : i = j
    · rw [h2, e]
    · rcases Nat.lt_or_ge i j with h5 | h5
      · rw [hn i h5] at h3; cases h3
      · rw [h4 j (by omega)] at h; cases h
theorem findTo_none {rs : List (Int × Int × Int)} {a b : Int} {k : Nat} (hn : ∀ i, i < k → hit rs a b i = false) : findTo rs a b k = -1 := by
  rcases findTo_cases rs a b k with ⟨h1, _⟩ | ⟨i, h1, h2, h3, h4⟩
  · exact h1
  · rw [hn i h1] at h3; cases h3

/-- one road is as it should be -/
def roadIn (n : Int) (rs : List (Int × Int × Int)) (k : Nat) : Bool :=
  (decide (0 ≤ a3 rs k) && decide (a3 rs k ≤ n - 1)) && ((decide (a3 rs k + 1 ≤ b3 rs k) && decide (b3 rs k ≤ n - 1)) && (decide (1 ≤ c3 rs k) && decide (c3 rs k ≤ 99)))
/-- no road ahead of it joins the same towns -/
def freshTo (rs : List (Int × Int × Int)) (k : Nat) : Nat → Bool
  | 0 => true
  | j + 1 => freshTo rs k j && !(decide (a3 rs j = a3 rs k) && decide (b3 rs j = b3 rs k))
def roadOne (n : Int) (rs : List (Int × Int × Int)) (k : Nat) : Bool := roadIn n rs k && freshTo rs k k
def roadsTo (n : Int) (rs : List (Int × Int × Int)) : Nat → Bool
  | 0 => true
  | k + 1 => roadsTo n rs k && roadOne n rs k
def townsOk (n : Int) (rs : List (Int × Int × Int)) : Bool := (decide (1 ≤ n) && decide (n ≤ 8)) && decide (rs.length ≤ 16)
def roadsValid (n : Int) (rs : List (Int × Int × Int)) : Bool := townsOk n rs && roadsTo n rs rs.length
theorem roadsTo_no {n : Int} {rs : List (Int × Int × Int)} {k : Nat} (h : roadOne n rs k = false) : ∀ m, k < m → roadsTo n rs m = false := by
  intro m
  induction m with
  | zero => intro h; omega
  | succ m ih =>
    intro hk
    rw [roadsTo]
    by_cases e : k = m
    · subst e; rw [h, Bool.and_false]
    · rw [ih (by omega), Bool.false_and]
theorem freshTo_no {rs : List (Int × Int × Int)} {k j : Nat} (h : (decide (a3 rs j = a3 rs k) && decide (b3 rs j = b3 rs k)) = true) : ∀ m, j < m → freshTo rs k m = false := by
  intro m
  induction m with
  | zero => intro h; omega
  | succ m ih =>
    intro hk
    rw [freshTo]
    by_cases e : j = m
    · subst e; rw [h]; simp
    · rw [ih (by omega), Bool.false_and]
theorem freshTo_iff {rs : List (Int × Int × Int)} {k : Nat} : ∀ m, freshTo rs k m = true ↔ ∀ j, j < m → ¬ (a3 rs j = a3 rs k ∧ b3 rs j = b3 rs k) := by
  intro m
  induction m with
  | zero => simp [freshTo]
  | succ m ih =>
    rw [freshTo, Bool.and_eq_true, ih]
    constructor
    · rintro ⟨h1, h2⟩ j hj
      by_cases e : j = m
      · subst e
        intro ⟨g1, g2⟩
        rw [decide_eq_true g1, decide_eq_true g2] at h2
        cases h2
      · exact h1 j (by omega)
    · intro h
      refine ⟨fun j hj => h j (by omega), ?_⟩
      have := h m (by omega)
      by_cases g1 : a3 rs m = a3 rs k
      · rw [decide_eq_false (fun g2 => this ⟨g1, g2⟩)]; simp
      · rw [decide_eq_false g1]; rfl
theorem roadsTo_iff {n : Int} {rs : List (Int × Int × Int)} : ∀ m, roadsTo n rs m = true ↔ ∀ j, j < m → roadOne n rs j = true := by
  intro m
  induction m with
  | zero => simp [roadsTo]
  | succ m ih =>
    rw [roadsTo, Bool.and_eq_true, ih]
    constructor
    · rintro ⟨h1, h2⟩ j hj
      by_cases e : j = m
      · subst e; exact h2
      · exact h1 j (by omega)
    · intro h
      exact ⟨fun j hj => h j (by omega), h m (by omega)⟩
/-- what valid roads are -/
structure RV (n : Nat) (rs : List (Int × Int × Int)) : Prop where
  n1 : 1 ≤ n
  n8 : n ≤ 8
  l16 : rs.length ≤ 16
  road : ∀ k, k < rs.length → 0 ≤ a3 rs k ∧ a3 rs k < b3 rs k ∧ b3 rs k < n ∧ 1 ≤ c3 rs k ∧ c3 rs k ≤ 99
  apart : ∀ j k, j < k → k < rs.length → ¬ (a3 rs j = a3 rs k ∧ b3 rs j = b3 rs k)
theorem roadIn_iff {n : Int} {rs : List (Int × Int × Int)} {k : Nat} : roadIn n rs k = true ↔ 0 ≤ a3 rs k ∧ a3 rs k < b3 rs k ∧ b3 rs k < n ∧ 1 ≤ c3 rs k ∧ c3 rs k ≤ 99 := by
  simp only [roadIn, Bool.and_eq_true, decide_eq_true_eq]
  omega
theorem roadsValid_t {n : Int} {rs : List (Int × Int × Int)} (h : roadsValid n rs = true) : ∃ m : Nat, n = m ∧ RV m rs := by
  simp only [roadsValid, townsOk, Bool.and_eq_true, decide_eq_true_eq] at h
  obtain ⟨⟨⟨h1, h2⟩, h3⟩, h4⟩ := h
  obtain ⟨m, rfl⟩ := Int.eq_ofNat_of_zero_le (show 0 ≤ n by omega)
  rw [roadsTo_iff] at h4
  refine ⟨m, rfl, by omega, by omega, h3, fun k hk => ?_, fun j k hj hk => ?_⟩
  · have := h4 k hk
    rw [roadOne, Bool.and_eq_true] at this
    exact roadIn_iff.1 this.1
  · have := h4 k hk
    rw [roadOne, Bool.and_eq_true, freshTo_iff] at this
    exact this.2 j hj
theorem roadsValid_of {m : Nat} {rs : List (Int × Int × Int)} (h : RV m rs) : roadsValid m rs = true := by
  have h1 := h.n1
  have h2 := h.n8
  simp only [roadsValid, townsOk, Bool.and_eq_true, decide_eq_true_eq]
  refine ⟨⟨⟨by omega, by omega⟩, h.l16⟩, ?_⟩
  rw [roadsTo_iff]
  intro j hj
  rw [roadOne, Bool.and_eq_true, freshTo_iff]
  exact ⟨roadIn_iff.2 (h.road j hj), fun i hi => h.apart i j hi hj⟩

section
variable {n : Nat} {rs : List (Int × Int × Int)}
theorem hit_iff {a b : Int} {k : Nat} : hit rs a b k = true ↔ a3 rs k = min a b ∧ b3 rs k = max a b := by simp [hit]
theorem RV.hit_one (h : RV n rs) {a b : Int} {j k : Nat} (hj : j < rs.length) (hk : k < rs.length) (h1 : hit rs a b j = true) (h2 : hit rs a b k = true) : j = k := by
  rw [hit_iff] at h1 h2
  rcases Nat.lt_or_ge j k with h3 | h3
  · exact absurd ⟨h1.1.trans h2.1.symm, h1.2.trans h2.2.symm⟩ (h.apart j k h3 hk)
  · rcases Nat.lt_or_ge k j with h4 | h4
    · exact absurd ⟨h2.1.trans h1.1.symm, h2.2.trans h1.2.symm⟩ (h.apart k j h4 hj)
    · omega
theorem RV.find_hit (h : RV n rs) {a b : Int} {k m : Nat} (hk : k < m) (hm : m ≤ rs.length) (h1 : hit rs a b k = true) : findTo rs a b m = (k : Int) :=
  findTo_at hk h1 (fun i hi => by
    cases hh : hit rs a b i
    · rfl
    · have := h.hit_one (by omega) (by omega) hh h1
      omega)
theorem RV.hit_self (h : RV n rs) {k : Nat} (hk : k < rs.length) : hit rs (a3 rs k) (b3 rs k) k = true := by
  obtain ⟨h1, h2, _⟩ := h.road k hk
  rw [hit_iff]; omega
theorem RV.edge_road (h : RV n rs) {k : Nat} (hk : k < rs.length) : edge rs (a3 rs k) (b3 rs k) = c3 rs k := by
  unfold edge edgeTo
  rw [h.find_hit hk (Nat.le_refl _) (h.hit_self hk), if_pos (by omega)]
  rfl
theorem edge_cases (rs : List (Int × Int × Int)) (a b : Int) : (edge rs a b = -1 ∧ find1 rs a b = -1 ∧ ∀ j, j < rs.length → hit rs a b j = false) ∨ ∃ j, j < rs.length ∧ find1 rs a b = (j : Int) ∧ hit rs a b j = true ∧ edge rs a b = c3 rs j := by
  unfold edge edgeTo find1
  rcases findTo_cases rs a b rs.length with ⟨h1, h2⟩ | ⟨j, h1, h2, h3, h4⟩
  · rw [h1, if_neg (by omega)]
    exact .inl ⟨rfl, rfl, h2⟩
  · rw [h2, if_pos (by omega)]
    exact .inr ⟨j, h1, rfl, h3, rfl⟩
theorem RV.edge_pos (h : RV n rs) {a b : Int} (h1 : 0 ≤ edge rs a b) : 1 ≤ edge rs a b ∧ edge rs a b ≤ 99 ∧ 0 ≤ a ∧ a < n ∧ 0 ≤ b ∧ b < n ∧ a ≠ b := by
  rcases edge_cases rs a b with ⟨h2, _, _⟩ | ⟨j, h2, _, h3, h4⟩
  · omega
  · rw [hit_iff] at h3
    obtain ⟨g1, g2, g3, g4, g5⟩ := h.road j h2
    rw [h4]
    omega
theorem RV.edge_le (h : RV n rs) (a b : Int) : edge rs a b ≤ 99 ∧ -1 ≤ edge rs a b := by
  rcases edge_cases rs a b with ⟨h2, _, _⟩ | ⟨j, h2, _, h3, h4⟩
  · omega
  · obtain ⟨g1, g2, g3, g4, g5⟩ := h.road j h2
    omega
/-- the edges of roads, between towns as naturals -/
def eN (rs : List (Int × Int × Int)) (a b : Nat) : Int := edge rs a b
theorem eN_comm (rs : List (Int × Int × Int)) (a b : Nat) : eN rs a b = eN rs b a := edge_comm _ _ _
theorem RV.eN_le (h : RV n rs) (a b : Nat) : eN rs a b ≤ 99 := (h.edge_le a b).1

theorem a1_set {xs : List Int} {i : Nat} {v : Int} (j : Nat) (hi : i < xs.length) : a1 (xs.set i v) j = if i = j then v else a1 xs j := by
  unfold a1
  by_cases h : i = j
  · subst h
    rw [if_pos rfl, List.getD_eq_getElem?_getD, List.getElem?_set_self hi]; rfl
  · rw [if_neg h, List.getD_eq_getElem?_getD, List.getElem?_set_ne h, ← List.getD_eq_getElem?_getD]
/-- one road's turn -/
def relax (out : List Int) (rs : List (Int × Int × Int)) (k : Nat) : List Int :=
  (out.set (a3 rs k).toNat (min (a1 out (a3 rs k).toNat) (a1 out (b3 rs k).toNat + c3 rs k))).set (b3 rs k).toNat
    (min (a1 (out.set (a3 rs k).toNat (min (a1 out (a3 rs k).toNat) (a1 out (b3 rs k).toNat + c3 rs k))) (b3 rs k).toNat) (a1 (out.set (a3 rs k).toNat (min (a1 out (a3 rs k).toNat) (a1 out (b3 rs k).toNat + c3 rs k))) (a3 rs k).toNat + c3 rs k))
def relaxTo (rs : List (Int × Int × Int)) (out : List Int) : Nat → List Int
  | 0 => out
  | k + 1 => relax (relaxTo rs out k) rs k
def farRound (rs : List (Int × Int × Int)) (out : List Int) : Nat → List Int
  | 0 => out
  | t + 1 => relaxTo rs (farRound rs out t) rs.length
def farStart (n : Nat) (a : Nat) : List Int := (List.replicate n 100000).set a 0
def farList (n : Nat) (rs : List (Int × Int × Int)) (a : Nat) : List Int := farRound rs (farStart n a) n
/-- the distance, -1 for no way -/
def dist (n : Nat) (rs : List (Int × Int × Int)) (a b : Nat) : Int := if 100000 ≤ a1 (farList n rs a) b then -1 else a1 (farList n rs a) b

theorem relax_len (out : List Int) (rs : List (Int × Int × Int)) (k : Nat) : (relax out rs k).length = out.length := by
  simp [relax]
/-- what one road's turn does, town by town -/
theorem RV.relax_at (h : RV n rs) {out : List Int} (hl : out.length = n) {k : Nat} (hk : k < rs.length) (v : Nat) (_hv : v < n) :
    a1 (relax out rs k) v = if (v : Int) = b3 rs k then min (a1 out v) (min (a1 out (a3 rs k).toNat) (a1 out v + c3 rs k) + c3 rs k) else if (v : Int) = a3 rs k then min (a1 out v) (a1 out (b3 rs k).toNat + c3 rs k) else a1 out v := by
  obtain ⟨g1, g2, g3, g4, g5⟩ := h.road k hk
  unfold relax
  rw [a1_set _ (by rw [List.length_set]; omega)]
  by_cases e1 : (v : Int) = b3 rs k
  · have e1' : (b3 rs k).toNat = v := by omega
    rw [if_pos e1', if_pos e1, a1_set _ (by omega), a1_set _ (by omega), if_pos rfl, if_neg (by omega), e1']
  · rw [if_neg (by omega), if_neg e1, a1_set _ (by omega)]
    by_cases e2 : (v : Int) = a3 rs k
    · have e2' : (a3 rs k).toNat = v := by omega
      rw [if_pos e2', if_pos e2, e2']
    · rw [if_neg (by omega), if_neg e2]
/-- what the list of distances holds on the way -/
def FarOk (n : Nat) (rs : List (Int × Int × Int)) (a : Nat) (out : List Int) : Prop :=
  out.length = n ∧ ∀ v, v < n → (0 ≤ a1 out v ∧ a1 out v ≤ 100000) ∧ (a1 out v < 100000 → ∃ k, Wk (eN rs) n k v a (a1 out v))
theorem RV.relax_ok (h : RV n rs) {a : Nat} {out : List Int} (ho : FarOk n rs a out) {k : Nat} (hk : k < rs.length) : FarOk n rs a (relax out rs k) := by
  obtain ⟨hl, ho⟩ := ho
  obtain ⟨g1, g2, g3, g4, g5⟩ := h.road k hk
  obtain ⟨A, hA⟩ := Int.eq_ofNat_of_zero_le g1
  obtain ⟨B, hB⟩ := Int.eq_ofNat_of_zero_le (show 0 ≤ b3 rs k by omega)
  have he : eN rs A B = c3 rs k := by unfold eN; rw [← hA, ← hB]; exact h.edge_road hk
  have he' : eN rs B A = c3 rs k := by rw [eN_comm]; exact he
  have hAn : A < n := by omega
  have hBn : B < n := by omega
  obtain ⟨oA, wA⟩ := ho A hAn
  obtain ⟨oB, wB⟩ := ho B hBn
  refine ⟨by rw [relax_len]; exact hl, fun v hv => ?_⟩
  obtain ⟨ov, wv⟩ := ho v hv
  rw [h.relax_at hl hk v hv]
  rw [hA, hB, Int.toNat_natCast, Int.toNat_natCast]
  by_cases e1 : (v : Int) = B
  · obtain rfl : v = B := by omega
    rw [if_pos rfl]
    refine ⟨by omega, fun hlt => ?_⟩
    by_cases c : a1 out v ≤ a1 out A + c3 rs k
    · rw [show min (a1 out v) (min (a1 out A) (a1 out v + c3 rs k) + c3 rs k) = a1 out v by omega]
      exact wv (by omega)
    · have e : min (a1 out v) (min (a1 out A) (a1 out v + c3 rs k) + c3 rs k) = eN rs v A + a1 out A := by omega
      rw [e]
      obtain ⟨j, wj⟩ := wA (by omega)
      exact ⟨j + 1, .cons hv (by omega) wj⟩
  · rw [if_neg e1]
    by_cases e2 : (v : Int) = A
    · obtain rfl : v = A := by omega
      rw [if_pos rfl]
      refine ⟨by omega, fun hlt => ?_⟩
      by_cases c : a1 out v ≤ a1 out B + c3 rs k
      · rw [show min (a1 out v) (a1 out B + c3 rs k) = a1 out v by omega]
        exact wv (by omega)
      · have e : min (a1 out v) (a1 out B + c3 rs k) = eN rs v B + a1 out B := by omega
        rw [e]
        obtain ⟨j, wj⟩ := wB (by omega)
        exact ⟨j + 1, .cons hv (by omega) wj⟩
    · rw [if_neg e2]
      exact ⟨ov, wv⟩
/-- no entry grows -/
def LeAll (n : Nat) (xs ys : List Int) : Prop := ∀ v, v < n → a1 xs v ≤ a1 ys v
theorem LeAll.trans {xs ys zs : List Int} (h : LeAll n xs ys) (g : LeAll n ys zs) : LeAll n xs zs := fun v hv => Int.le_trans (h v hv) (g v hv)
theorem RV.relax_le (h : RV n rs) {out : List Int} (hl : out.length = n) {k : Nat} (hk : k < rs.length) : LeAll n (relax out rs k) out := fun v hv => by
  rw [h.relax_at hl hk v hv]
  split
  · omega
  · split <;> omega
/-- behind a road's turn its towns are no farther apart than its miles -/
theorem RV.relax_edge (h : RV n rs) {a : Nat} {out : List Int} (ho : FarOk n rs a out) {k : Nat} (hk : k < rs.length) {u v : Nat} (hu : u < n) (hv : v < n) (hh : hit rs u v k = true) : a1 (relax out rs k) v ≤ a1 out u + c3 rs k := by
  rw [hit_iff] at hh
  obtain ⟨g1, g2, g3, g4, g5⟩ := h.road k hk
  have h0 := (ho.2 u hu).1
  rw [h.relax_at ho.1 hk v hv]
  by_cases e1 : (v : Int) = b3 rs k
  · rw [if_pos e1]
    have : (a3 rs k).toNat = u := by omega
    rw [this]
    omega
  · rw [if_neg e1, if_pos (by omega)]
    have : (b3 rs k).toNat = u := by omega
    rw [this]
    omega
theorem RV.relaxTo_ok (h : RV n rs) {a : Nat} {out : List Int} (ho : FarOk n rs a out) : ∀ k, k ≤ rs.length → FarOk n rs a (relaxTo rs out k) ∧ LeAll n (relaxTo rs out k) out := by
  intro k
  induction k with
  | zero => intro _; exact ⟨ho, fun v _ => Int.le_refl _⟩
  | succ k ih =>
    intro hk
    obtain ⟨i1, i2⟩ := ih (by omega)
    exact ⟨h.relax_ok i1 (by omega), (h.relax_le i1.1 (by omega)).trans i2⟩
theorem RV.relaxTo_mono (h : RV n rs) {a : Nat} {out : List Int} (ho : FarOk n rs a out) {j : Nat} : ∀ k, j ≤ k → k ≤ rs.length → LeAll n (relaxTo rs out k) (relaxTo rs out j) := by
  intro k
  induction k with
  | zero => intro h1 _; obtain rfl : j = 0 := by omega
            exact fun v _ => Int.le_refl _
  | succ k ih =>
    intro h1 h2
    by_cases e : j = k + 1
    · subst e; exact fun v _ => Int.le_refl _
    · exact (h.relax_le (h.relaxTo_ok ho k (by omega)).1.1 (by omega)).trans (ih (by omega) (by omega))
theorem RV.round_edge (h : RV n rs) {a : Nat} {out : List Int} (ho : FarOk n rs a out) {u v : Nat} (hu : u < n) (hv : v < n) (he : 1 ≤ eN rs v u) : a1 (relaxTo rs out rs.length) v ≤ eN rs v u + a1 out u := by
  unfold eN at he ⊢
  rcases edge_cases rs v u with ⟨h2, _, _⟩ | ⟨j, h2, _, h3, h4⟩
  · omega
  · rw [hit_comm] at h3
    have r1 := h.relaxTo_ok ho j (by omega)
    have r2 := h.relax_edge r1.1 h2 hu hv h3
    have r3 := h.relaxTo_mono ho (j := j + 1) rs.length (by omega) (Nat.le_refl _) v hv
    have r4 := r1.2 u hu
    rw [relaxTo] at r3
    omega
theorem farStart_ok (rs : List (Int × Int × Int)) {a : Nat} (ha : a < n) : FarOk n rs a (farStart n a) := by
  refine ⟨by simp [farStart], fun v hv => ?_⟩
  unfold farStart
  rw [a1_set _ (by simpa using ha)]
  by_cases e : a = v
  · subst e
    rw [if_pos rfl]
    exact ⟨by omega, fun _ => ⟨0, .nil ha⟩⟩
  · rw [if_neg e]
    have : a1 (List.replicate n 100000) v = 100000 := by unfold a1; rw [List.getD_eq_getElem?_getD, List.getElem?_replicate]; simp [hv]
    rw [this]
    exact ⟨by omega, fun h => by omega⟩
theorem RV.far_ok (h : RV n rs) {a : Nat} (ha : a < n) : ∀ t, FarOk n rs a (farRound rs (farStart n a) t) ∧ ∀ k v L, k ≤ t → Wk (eN rs) n k v a L → a1 (farRound rs (farStart n a) t) v ≤ L := by
  intro t
  induction t with
  | zero =>
    refine ⟨farStart_ok rs ha, fun k v L hk w => ?_⟩
    obtain rfl : k = 0 := by omega
    rcases w.cases with ⟨_, rfl, rfl⟩ | ⟨_, _, _, h1, _⟩
    · rw [farRound, farStart, a1_set _ (by simpa using ha), if_pos rfl]
      exact Int.le_refl _
    · omega
  | succ t ih =>
    obtain ⟨i1, i2⟩ := ih
    obtain ⟨r1, r2⟩ := h.relaxTo_ok i1 rs.length (Nat.le_refl _)
    refine ⟨r1, fun k v L hk w => ?_⟩
    rcases w.cases with ⟨rfl, rfl, rfl⟩ | ⟨b, j, M, rfl, h1, h2, rfl⟩
    · exact Int.le_trans (r2 v ha) (i2 0 v 0 (by omega) w)
    · have h3 := i2 j b M (by omega) h2
      have h4 := h.round_edge i1 h2.lt_l w.lt_l h1
      rw [farRound]
      omega
theorem RV.farList_at (h : RV n rs) {a : Nat} (ha : a < n) {v : Nat} (hv : v < n) : (a1 (farList n rs a) v = 100000 ∧ NoWay (eN rs) n a v) ∨ (a1 (farList n rs a) v ≤ 800 ∧ IsD (eN rs) n a v (a1 (farList n rs a) v)) := by
  obtain ⟨⟨_, h1⟩, h2⟩ := h.far_ok ha n
  obtain ⟨o, w⟩ := h1 v hv
  have hmin : ∀ k L, Wk (eN rs) n k v a L → a1 (farList n rs a) v ≤ L := fun k L g => by
    obtain ⟨j, M, j1, j2, j3⟩ := g.short
    have := h2 j v M (by omega) j3
    exact Int.le_trans this j2
  by_cases c : a1 (farList n rs a) v < 100000
  · obtain ⟨k, wk⟩ := w c
    have hd : IsD (eN rs) n v a (a1 (farList n rs a) v) := ⟨⟨k, wk⟩, hmin⟩
    have := hd.le h.eN_le
    have := h.n8
    exact .inr ⟨by omega, hd.rev (eN_comm rs)⟩
  · refine .inl ⟨by unfold farList at c ⊢; omega, fun k L g => ?_⟩
    have g' := g.rev (eN_comm rs)
    obtain ⟨j, M, j1, j2, j3⟩ := g'.short
    have := hmin _ _ j3
    have := j3.le h.eN_le
    have := h.n8
    omega
theorem RV.farList_len (h : RV n rs) {a : Nat} (ha : a < n) : (farList n rs a).length = n := (h.far_ok ha n).1.1
theorem RV.dist_at (h : RV n rs) {a v : Nat} (ha : a < n) (hv : v < n) : (dist n rs a v = -1 ∧ NoWay (eN rs) n a v) ∨ (0 ≤ dist n rs a v ∧ dist n rs a v ≤ 800 ∧ IsD (eN rs) n a v (dist n rs a v)) := by
  unfold dist
  rcases h.farList_at ha hv with ⟨h1, h2⟩ | ⟨h1, h2⟩
  · rw [h1, if_pos (by omega)]
    exact .inl ⟨rfl, h2⟩
  · have := h2.ge
    rw [if_neg (by omega)]
    exact .inr ⟨this, h1, h2⟩
end
end Go.Proofs.Ytdnjeahbnidefaa

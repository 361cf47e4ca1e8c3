/- Plain laws: the greatest distance from a town, whole roads, the middle town. No program is named here. -/
import Derived.Test.YtdnjeahbnidefaaRoSub
import Derived.Test.YtdnjeahbnidefaaRoD1
import Derived.Test.YtdnjeahbnidefaaGA
namespace Go.Proofs.Ytdnjeahbnidefaa
open Go.RowKit

theorem cnt_full {S : Nat → Bool} : ∀ m, cnt S m = m ↔ ∀ i, i < m → S i = true := by
  intro m
  induction m with
  | zero => exact ⟨fun _ i h => by omega, fun _ => rfl⟩
  | succ m ih =>
    have hle := cnt_le S m
    constructor
    · intro h i hi
      rw [cnt] at h
      have hm : S m = true := by
        cases hs : S m
        · rw [hs] at h; simp at h; omega
        · rfl
      rw [hm] at h
      by_cases e : i = m
      · rw [e]; exact hm
      · exact ih.1 (by simp at h; omega) i (by omega)
    · intro h
      rw [cnt, ih.2 (fun i hi => h i (by omega)), h m (by omega)]
      rfl
/-- the greatest of the first k numbers, 0 at least -/
def topTo (xs : List Int) : Nat → Int
  | 0 => 0
  | k + 1 => max (topTo xs k) (a1 xs k)
theorem topTo_lt (xs : List Int) (B : Int) (hB : 0 < B) : ∀ k, topTo xs k < B ↔ ∀ i, i < k → a1 xs i < B := by
  intro k
  induction k with
  | zero => exact ⟨fun _ i h => by omega, fun _ => hB⟩
  | succ k ih =>
    constructor
    · intro h i hi
      rw [topTo] at h
      by_cases e : i = k
      · subst e; omega
      · exact ih.1 (by omega) i (by omega)
    · intro h
      have h1 := ih.2 (fun i hi => h i (by omega))
      have h2 := h k (by omega)
      rw [topTo]; omega
theorem topTo_ge (xs : List Int) : ∀ k, 0 ≤ topTo xs k ∧ ∀ i, i < k → a1 xs i ≤ topTo xs k := by
  intro k
  induction k with
  | zero => exact ⟨Int.le_refl _, fun i h => by omega⟩
  | succ k ih =>
    rw [topTo]
    refine ⟨by omega, fun i hi => ?_⟩
    by_cases e : i = k
    · subst e; omega
    · have := ih.2 i (by omega); omega
theorem topTo_le (xs : List Int) (B : Int) (hB : 0 ≤ B) : ∀ k, (∀ i, i < k → a1 xs i ≤ B) → topTo xs k ≤ B := by
  intro k h
  have := (topTo_lt xs (B + 1) (by omega) k).2 (fun i hi => by have := h i hi; omega)
  omega
/-- the greatest distance from a town, 100000 if a town cannot be reached -/
def most (n : Nat) (rs : List (Int × Int × Int)) (a : Nat) : Int := topTo (farList n rs a) n
section
variable {n : Nat} {rs : List (Int × Int × Int)}
theorem RV.most_in (h : RV n rs) {a : Nat} (ha : a < n) : 0 ≤ most n rs a ∧ most n rs a ≤ 100000 := by
  refine ⟨(topTo_ge _ _).1, topTo_le _ _ (by omega) _ fun i hi => ?_⟩
  rcases h.farList_at ha hi with ⟨e, _⟩ | ⟨e, _⟩ <;> omega
theorem dist_small {a v : Nat} (h : a1 (farList n rs a) v < 100000) : dist n rs a v = a1 (farList n rs a) v := by rw [dist, if_neg (by omega)]
theorem RV.far_iff (h : RV n rs) {a v : Nat} (ha : a < n) (hv : v < n) : a1 (farList n rs a) v < 100000 ↔ 0 ≤ dist n rs a v := by
  constructor
  · intro hl
    rw [dist_small hl]
    rcases h.farList_at ha hv with ⟨e, _⟩ | ⟨_, e⟩
    · omega
    · exact e.ge
  · intro h0
    rw [dist] at h0
    split at h0 <;> omega
/-- all towns are reached -/
theorem RV.whole_iff (h : RV n rs) : most n rs 0 < 100000 ↔ ∀ v, v < n → 0 ≤ dist n rs 0 v := by
  have h0 : 0 < n := h.n1
  unfold most
  rw [topTo_lt _ _ (by omega)]
  exact ⟨fun g v hv => (h.far_iff h0 hv).1 (g v hv), fun g v hv => (h.far_iff h0 hv).2 (g v hv)⟩
theorem RV.reach_iff (_h : RV n rs) : reach n rs 0 = n ↔ ∀ v, v < n → 0 ≤ dist n rs 0 v := by
  unfold reach got
  rw [cnt_full]
  exact ⟨fun g v hv => of_decide_eq_true (g v hv), fun g v hv => decide_eq_true (g v hv)⟩
/-- roads that join all towns -/
def whole (n : Int) (rs : List (Int × Int × Int)) : Bool := roadsValid n rs && decide (most n.toNat rs 0 < 100000)
theorem whole_v {n : Int} {rs : List (Int × Int × Int)} (h : roadsValid n rs = false) : whole n rs = false := by rw [whole, h]; rfl
theorem whole_in (h : roadsValid n rs = true) : whole n rs = decide (most n rs 0 < 100000) := by rw [whole, h]; rfl
theorem RV.whole_reach (h : RV n rs) : whole n rs = decide ((reach n rs 0 : Int) = (n : Int)) := by
  rw [whole_in (roadsValid_of h)]
  refine decide_eq_decide.2 ?_
  rw [h.whole_iff, ← h.reach_iff]
  omega
theorem whole_t {n : Int} {rs : List (Int × Int × Int)} (h : whole n rs = true) : ∃ m : Nat, n = m ∧ RV m rs ∧ AllCn (eN rs) m := by
  unfold whole at h
  rw [Bool.and_eq_true] at h
  obtain ⟨m, rfl, hv⟩ := roadsValid_t h.1
  have hd := hv.whole_iff.1 (of_decide_eq_true h.2)
  refine ⟨m, rfl, hv, fun u v hu hw => ?_⟩
  have h0 : 0 < m := hv.n1
  exact (((hv.dist_ge_iff h0 hu).1 (hd u hu)).symm (eN_comm rs)).trans ((hv.dist_ge_iff h0 hw).1 (hd v hw))
theorem RV.whole_of (h : RV n rs) (hc : AllCn (eN rs) n) : whole n rs = true := by
  rw [whole_in (roadsValid_of h)]
  exact decide_eq_true (h.whole_iff.2 fun v hv => (h.dist_ge_iff h.n1 hv).2 (hc _ _ h.n1 hv))
theorem RV.all_dist (h : RV n rs) (hc : AllCn (eN rs) n) {a v : Nat} (ha : a < n) (hv : v < n) : 0 ≤ dist n rs a v ∧ dist n rs a v ≤ 800 ∧ a1 (farList n rs a) v = dist n rs a v := by
  have h0 := (h.dist_ge_iff ha hv).2 (hc a v ha hv)
  have hl := (h.far_iff ha hv).2 h0
  rcases h.dist_at ha hv with ⟨e, _⟩ | ⟨_, e, _⟩
  · omega
  · exact ⟨h0, e, (dist_small hl).symm⟩
/-- in whole roads the greatest distance is a distance -/
theorem RV.most_at (h : RV n rs) (hc : AllCn (eN rs) n) {a : Nat} (ha : a < n) : 0 ≤ most n rs a ∧ most n rs a ≤ 800 ∧ (∀ v, v < n → dist n rs a v ≤ most n rs a) ∧ ∀ B : Int, 0 ≤ B → (∀ v, v < n → dist n rs a v ≤ B) → most n rs a ≤ B := by
  refine ⟨(topTo_ge _ _).1, topTo_le _ _ (by omega) _ fun i hi => by have := h.all_dist hc ha hi; omega, fun v hv => ?_, fun B hB hb => topTo_le _ _ hB _ fun i hi => by have := h.all_dist hc ha hi; have := hb i hi; omega⟩
  have := (topTo_ge (farList n rs a) n).2 v hv
  have := h.all_dist hc ha hv
  unfold most
  omega
end
/-- the town with the least greatest distance among the first k -/
def midTo (n : Nat) (rs : List (Int × Int × Int)) : Nat → Nat
  | 0 => 0
  | k + 1 => if most n rs k < most n rs (midTo n rs k) then k else midTo n rs k
theorem midTo_lt {n : Nat} (rs : List (Int × Int × Int)) (h : 1 ≤ n) : ∀ k, k ≤ n → midTo n rs k < n := by
  intro k
  induction k with
  | zero => intro _; exact h
  | succ k ih =>
    intro hk
    rw [midTo]
    split
    · omega
    · exact ih (by omega)
/-- it is the first one of the best -/
theorem midTo_best {n : Nat} {rs : List (Int × Int × Int)} : ∀ k, (∀ a, a < k → most n rs (midTo n rs k) ≤ most n rs a ∧ (a < midTo n rs k → most n rs (midTo n rs k) < most n rs a)) ∧ (midTo n rs k = 0 ∨ midTo n rs k < k) := by
  intro k
  induction k with
  | zero => exact ⟨fun a h => by omega, .inl rfl⟩
  | succ k ih =>
    obtain ⟨ih, ihk⟩ := ih
    rw [midTo]
    by_cases c : most n rs k < most n rs (midTo n rs k)
    · rw [if_pos c]
      refine ⟨fun a ha => ?_, .inr (by omega)⟩
      by_cases e : a = k
      · subst e; exact ⟨Int.le_refl _, fun h => by omega⟩
      · have := (ih a (by omega)).1; exact ⟨by omega, fun _ => by omega⟩
    · rw [if_neg c]
      refine ⟨fun a ha => ?_, by omega⟩
      by_cases e : a = k
      · subst e
        exact ⟨by omega, fun h => by rcases ihk with h1 | h1 <;> omega⟩
      · exact ih a (by omega)
/-- the indexes of the needed roads -/
def isNeeded (n : Nat) (rs : List (Int × Int × Int)) (i : Nat) : Bool := decide (dist n (lessR rs i) (a3 rs i).toNat (b3 rs i).toNat < 0)
def neededTo (n : Nat) (rs : List (Int × Int × Int)) : Nat → List Int
  | 0 => []
  | k + 1 => if isNeeded n rs k = true then neededTo n rs k ++ [(k : Int)] else neededTo n rs k
def needed (n : Int) (rs : List (Int × Int × Int)) : List Int := if roadsValid n rs = true then neededTo n.toNat rs rs.length else []
theorem neededTo_len {n : Nat} {rs : List (Int × Int × Int)} : ∀ k, (neededTo n rs k).length ≤ k := by
  intro k
  induction k with
  | zero => exact Nat.le_refl _
  | succ k ih =>
    rw [neededTo]
    split
    · simp; omega
    · omega
theorem mem_neededTo {n : Nat} {rs : List (Int × Int × Int)} : ∀ k (x : Int), x ∈ neededTo n rs k ↔ ∃ i : Nat, x = i ∧ i < k ∧ isNeeded n rs i = true := by
  intro k
  induction k with
  | zero => intro x; exact ⟨fun h => by simp [neededTo] at h, fun ⟨i, _, h, _⟩ => by omega⟩
  | succ k ih =>
    intro x
    rw [neededTo]
    split
    · rename_i hk
      rw [List.mem_append, ih, List.mem_singleton]
      constructor
      · rintro (⟨i, h1, h2, h3⟩ | h)
        · exact ⟨i, h1, by omega, h3⟩
        · exact ⟨k, h, by omega, hk⟩
      · rintro ⟨i, h1, h2, h3⟩
        by_cases e : i = k
        · subst e; exact .inr h1
        · exact .inl ⟨i, h1, by omega, h3⟩
    · rename_i hk
      rw [ih]
      constructor
      · rintro ⟨i, h1, h2, h3⟩
        exact ⟨i, h1, by omega, h3⟩
      · rintro ⟨i, h1, h2, h3⟩
        by_cases e : i = k
        · subst e; exact absurd h3 hk
        · exact ⟨i, h1, by omega, h3⟩
end Go.Proofs.Ytdnjeahbnidefaa

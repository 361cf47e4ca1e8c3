/- Plain laws of rosters: how many teams there are, runs that overlap. No program is named here. -/
import Derived.Test.YtckjagpjljbohaaRuLaw
import Derived.Test.YtckjagpjljbohaaPigeon
namespace Go.Proofs.Ytckjagpjljbohaa
open Go.RowKit

/-- no earlier run has this run's team -/
def isNew (ro : List Int) (j : Nat) : Bool := (List.range j).all fun i => !decide (a1 ro i = a1 ro j)
theorem isNew_iff {ro : List Int} {j : Nat} : isNew ro j = true ↔ ∀ i, i < j → a1 ro i ≠ a1 ro j := by
  unfold isNew
  rw [List.all_eq_true]
  constructor
  · intro h i hi
    have := h i (List.mem_range.2 hi)
    simpa using this
  · intro h i hi
    have := h i (List.mem_range.1 hi)
    simpa using this
/-- how many teams the first k runs have -/
def diffTo (ro : List Int) : Nat → Nat
  | 0 => 0
  | k + 1 => if isNew ro k = true then diffTo ro k + 1 else diffTo ro k
def newL (ro : List Int) (k : Nat) : List Nat := ((List.range k).filter (isNew ro)).map fun j => (a1 ro j).toNat
theorem newL_len (ro : List Int) : ∀ k, (newL ro k).length = diffTo ro k := by
  intro k
  induction k with
  | zero => rfl
  | succ k ih =>
    unfold newL at *
    rw [List.length_map] at *
    rw [List.range_succ, List.filter_append, List.length_append, ih, diffTo]
    by_cases h : isNew ro k = true
    · rw [if_pos h]; simp [h]
    · rw [if_neg h]; simp [h]
theorem diffTo_le (ro : List Int) : ∀ k, diffTo ro k ≤ k := by
  intro k
  induction k with
  | zero => exact Nat.le_refl _
  | succ k ih => rw [diffTo]; split <;> omega
theorem newL_mem {ro : List Int} : ∀ k (x : Nat), (∃ j, j < k ∧ a1 ro j = x) → x ∈ newL ro k := by
  intro k x
  induction k with
  | zero => rintro ⟨j, hj, _⟩; omega
  | succ k ih =>
    rintro ⟨j, hj, hx⟩
    by_cases hq : ∃ i, i < k ∧ a1 ro i = x
    · have := ih hq
      unfold newL at this ⊢
      rw [List.range_succ, List.filter_append, List.map_append]
      exact List.mem_append.2 (.inl this)
    · obtain rfl : j = k := Classical.byContradiction fun q => hq ⟨j, by omega, hx⟩
      have hn : isNew ro j = true := isNew_iff.2 (fun i hi e => hq ⟨i, hi, by rw [e]; exact hx⟩)
      unfold newL
      rw [List.range_succ, List.filter_append, List.map_append]
      refine List.mem_append.2 (.inr ?_)
      simp [hn, hx]
theorem newL_nodup {ro : List Int} (h0 : ∀ j, 0 ≤ a1 ro j) (k : Nat) : (newL ro k).Nodup := by
  unfold newL List.Nodup
  rw [List.pairwise_map]
  have h1 : ((List.range k).filter (isNew ro)).Pairwise (· < ·) := List.pairwise_lt_range.filter _
  refine h1.imp_of_mem fun {a b} ha hb hab e => ?_
  have hb2 := isNew_iff.1 (List.mem_filter.1 hb).2 a hab
  have := h0 a
  have := h0 b
  exact hb2 (by omega)
/-- teams below T are T at most -/
theorem diffTo_top {ro : List Int} (h0 : ∀ j, 0 ≤ a1 ro j) {T k : Nat} (h : ∀ j, j < k → a1 ro j < T) : diffTo ro k ≤ T := by
  rw [← newL_len]
  refine pigeon T _ (newL_nodup h0 k) (fun x hx => ?_)
  unfold newL at hx
  obtain ⟨j, hj, rfl⟩ := List.mem_map.1 hx
  have h1 := h j (List.mem_range.1 (List.mem_filter.1 hj).1)
  have := h0 j
  omega
/-- runs of different teams -/
theorem diffTo_ge {ro : List Int} (h0 : ∀ j, 0 ≤ a1 ro j) {k : Nat} {js : List Nat} (hj : ∀ j ∈ js, j < k) (hd : js.Pairwise fun i j => a1 ro i ≠ a1 ro j) : js.length ≤ diffTo ro k := by
  rw [← newL_len]
  have := nodup_le (js.map fun j => (a1 ro j).toNat) (newL ro k) (by
    unfold List.Nodup
    rw [List.pairwise_map]
    exact hd.imp fun {a b} hab e => hab (by have := h0 a; have := h0 b; omega)) (fun x hx => by
    obtain ⟨j, hjm, rfl⟩ := List.mem_map.1 hx
    exact newL_mem k _ ⟨j, hj j hjm, by have := h0 j; omega⟩)
  simpa using this
theorem a1_out {ro : List Int} {j : Nat} (h : ro.length ≤ j) : a1 ro j = 0 := by
  unfold a1
  rw [List.getD_eq_getElem?_getD, List.getElem?_eq_none h]
  rfl
theorem rosterValid_t {rs : List (Int × Int)} {rest : Int} {ro : List Int} (h : rosterValid rs rest ro = true) : runsRest rs rest = true ∧ ro.length = rs.length ∧ (∀ j, 0 ≤ a1 ro j ∧ a1 ro j ≤ 11) ∧ ∀ i j, i < j → j < ro.length → a1 ro i = a1 ro j → b2 rs i + rest ≤ a2 rs j := by
  unfold rosterValid at h
  rw [Bool.and_eq_true, Bool.and_eq_true, decide_eq_true_eq] at h
  obtain ⟨h1, h2, h3⟩ := h
  have hone : ∀ j, j < ro.length → rosterOne rs rest ro j = true := fun j hj => by
    cases hq : rosterOne rs rest ro j
    · have := rosterTo_no hq ro.length hj
      rw [this] at h3
      cases h3
    · rfl
  refine ⟨h1, h2, fun j => ?_, fun i j hij hj e => ?_⟩
  · by_cases hj : j < ro.length
    · have := hone j hj
      simp only [rosterOne, Bool.and_eq_true, decide_eq_true_eq] at this
      omega
    · rw [a1_out (by omega)]; omega
  · have := hone j hj
    simp only [rosterOne, Bool.and_eq_true] at this
    exact (canOf_all j).1 this.2 i hij e
/-- runs that overlap at a time have different teams -/
theorem overlap {rs : List (Int × Int)} {rest : Int} {ro : List Int} (h : rosterValid rs rest ro = true) {t : Int} {js : List Nat} (hn : js.Nodup) (hj : ∀ j ∈ js, j < rs.length ∧ a2 rs j ≤ t ∧ t < b2 rs j + rest) : js.length ≤ diffTo ro ro.length := by
  obtain ⟨_, hl, hin, hap⟩ := rosterValid_t h
  refine diffTo_ge (fun j => (hin j).1) (fun j hjm => by rw [hl]; exact (hj j hjm).1) ?_
  refine hn.imp_of_mem fun {a b} ha hb hab e => ?_
  obtain ⟨a1', a2', a3'⟩ := hj a ha
  obtain ⟨b1', b2', b3'⟩ := hj b hb
  rcases Nat.lt_or_gt_of_ne hab with c | c
  · have := hap a b c (by omega) e
    omega
  · have := hap b a c (by omega) e.symm
    omega
/-- a run is on the road at a time, or its team is at rest -/
def busyAt (rs : List (Int × Int)) (rest t : Int) (j : Nat) : Bool := decide (a2 rs j ≤ t) && decide (t < b2 rs j + rest)
def busyTo (rs : List (Int × Int)) (rest t : Int) : Nat → Nat
  | 0 => 0
  | k + 1 => if busyAt rs rest t k = true then busyTo rs rest t k + 1 else busyTo rs rest t k
theorem busyTo_le (rs : List (Int × Int)) (rest t : Int) : ∀ k, busyTo rs rest t k ≤ k := by
  intro k
  induction k with
  | zero => exact Nat.le_refl _
  | succ k ih => rw [busyTo]; split <;> omega
theorem busyTo_len (rs : List (Int × Int)) (rest t : Int) : ∀ k, ((List.range k).filter (busyAt rs rest t)).length = busyTo rs rest t k := by
  intro k
  induction k with
  | zero => rfl
  | succ k ih =>
    rw [List.range_succ, List.filter_append, List.length_append, ih, busyTo]
    by_cases h : busyAt rs rest t k = true
    · rw [if_pos h]; simp [h]
    · rw [if_neg h]; simp [h]
theorem busy_law {rs : List (Int × Int)} {rest : Int} {ro : List Int} (h : rosterValid rs rest ro = true) (t : Int) : busyTo rs rest t rs.length ≤ diffTo ro ro.length := by
  rw [← busyTo_len]
  refine overlap h (t := t) (List.nodup_range.filter _) (fun j hj => ?_)
  obtain ⟨h1, h2⟩ := List.mem_filter.1 hj
  simp only [busyAt, Bool.and_eq_true, decide_eq_true_eq] at h2
  exact ⟨List.mem_range.1 h1, h2⟩
theorem runs_from : ∀ (rs : List (Int × Int)) (p : Int), runsOk p rs = true → ∀ k, k < rs.length → p ≤ a2 rs k := by
  intro rs
  induction rs with
  | nil => intro p _ k hk; simp at hk
  | cons r rs ih =>
    intro p h k hk
    rw [runsOk, Bool.and_eq_true] at h
    obtain ⟨h1, h2⟩ := h
    simp only [runOk, Bool.and_eq_true, decide_eq_true_eq] at h1
    cases k with
    | zero => show p ≤ r.1; omega
    | succ k =>
      have h3 := ih r.1 h2 k (by simpa using hk)
      have e : a2 (r :: rs) (k + 1) = a2 rs k := by simp [a2, List.getD_eq_getElem?_getD]
      rw [e]
      omega
theorem runs_asc : ∀ (rs : List (Int × Int)) (p : Int), runsOk p rs = true → ∀ i j, i ≤ j → j < rs.length → a2 rs i ≤ a2 rs j := by
  intro rs
  induction rs with
  | nil => intro p _ i j _ hk; simp at hk
  | cons r rs ih =>
    intro p h i j hij hj
    rw [runsOk, Bool.and_eq_true] at h
    obtain ⟨_, h2⟩ := h
    have e : ∀ k, a2 (r :: rs) (k + 1) = a2 rs k := fun k => by simp [a2, List.getD_eq_getElem?_getD]
    cases j with
    | zero =>
      obtain rfl : i = 0 := by omega
      exact Int.le_refl _
    | succ j =>
      rw [e]
      cases i with
      | zero => exact runs_from rs r.1 h2 j (by simpa using hj)
      | succ i => rw [e]; exact ih r.1 h2 i j (by omega) (by simpa using hj)
theorem runsRest_asc {rs : List (Int × Int)} {rest : Int} (h : runsRest rs rest = true) {i j : Nat} (hij : i ≤ j) (hj : j < rs.length) : a2 rs i ≤ a2 rs j := by
  simp only [runsRest, runsValid, Bool.and_eq_true] at h
  exact runs_asc rs 0 h.1.2 i j hij hj
end Go.Proofs.Ytckjagpjljbohaa

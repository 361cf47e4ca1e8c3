/- Plain laws: a heap in a list, least key on top. No program is named here. -/
import Derived.Test.YtckjagpjljbohaaBase
namespace Go.Proofs.Ytckjagpjljbohaa

/-- two elements exchanged -/
def swp (xs : List (Int × Int)) (i j : Nat) : List (Int × Int) := (xs.set i (xs.getD j (0, 0))).set j (xs.getD i (0, 0))
/-- the k-th key -/
def ky (key : Int × Int → Int) (xs : List (Int × Int)) (k : Nat) : Int := key (xs.getD k (0, 0))
theorem swp_len (xs : List (Int × Int)) (i j : Nat) : (swp xs i j).length = xs.length := by simp [swp]
theorem getD_set {α : Type} {xs : List α} {i : Nat} {v d : α} (j : Nat) (hi : i < xs.length) : (xs.set i v).getD j d = if i = j then v else xs.getD j d := by
  by_cases h : i = j
  · subst h
    rw [if_pos rfl, List.getD_eq_getElem?_getD, List.getElem?_set_self hi]; rfl
  · rw [if_neg h, List.getD_eq_getElem?_getD, List.getElem?_set_ne h, ← List.getD_eq_getElem?_getD]
theorem swp_at {xs : List (Int × Int)} {i j : Nat} (hi : i < xs.length) (hj : j < xs.length) (c : Nat) : (swp xs i j).getD c (0, 0) = if j = c then xs.getD i (0, 0) else if i = c then xs.getD j (0, 0) else xs.getD c (0, 0) := by
  unfold swp
  rw [getD_set _ (by rw [List.length_set]; exact hj), getD_set _ hi]
theorem mem_iff_getD {xs : List (Int × Int)} {x : Int × Int} : x ∈ xs ↔ ∃ k, k < xs.length ∧ xs.getD k (0, 0) = x := by
  rw [List.mem_iff_getElem]
  constructor
  · rintro ⟨k, h, rfl⟩
    exact ⟨k, h, by simp [h]⟩
  · rintro ⟨k, h, rfl⟩
    exact ⟨k, h, by simp [h]⟩
theorem mem_swp {xs : List (Int × Int)} {i j : Nat} (hi : i < xs.length) (hj : j < xs.length) (x : Int × Int) : x ∈ swp xs i j ↔ x ∈ xs := by
  rw [mem_iff_getD, mem_iff_getD, swp_len]
  constructor
  · rintro ⟨k, hk, rfl⟩
    rw [swp_at hi hj]
    by_cases h1 : j = k
    · rw [if_pos h1]; exact ⟨i, hi, rfl⟩
    · rw [if_neg h1]
      by_cases h2 : i = k
      · rw [if_pos h2]; exact ⟨j, hj, rfl⟩
      · rw [if_neg h2]; exact ⟨k, hk, rfl⟩
  · rintro ⟨k, hk, rfl⟩
    by_cases h1 : k = j
    · subst h1
      by_cases h2 : k = i
      · subst h2
        exact ⟨k, hk, by rw [swp_at hi hj, if_pos rfl]⟩
      · exact ⟨i, hi, by rw [swp_at hi hj, if_neg (fun e => h2 e), if_pos rfl]⟩
    · by_cases h2 : k = i
      · subst h2
        exact ⟨j, hj, by rw [swp_at hi hj, if_pos rfl]⟩
      · exact ⟨k, hk, by rw [swp_at hi hj, if_neg (fun e => h1 e.symm), if_neg (fun e => h2 e.symm)]⟩
section
variable {key : Int × Int → Int} {xs : List (Int × Int)} {n : Nat}
theorem ky_swp {i j : Nat} (hi : i < xs.length) (hj : j < xs.length) (c : Nat) : ky key (swp xs i j) c = if j = c then ky key xs i else if i = c then ky key xs j else ky key xs c := by
  unfold ky
  rw [swp_at hi hj]
  split
  · rfl
  · split <;> rfl
/-- no key is less than the one above it -/
def HeapN (key : Int × Int → Int) (xs : List (Int × Int)) (n : Nat) : Prop := ∀ c, 0 < c → c < n → ky key xs ((c - 1) / 2) ≤ ky key xs c
/-- .. but for the one at j, which may rise -/
def HeapUp (key : Int × Int → Int) (xs : List (Int × Int)) (n j : Nat) : Prop :=
  (∀ c, 0 < c → c < n → c ≠ j → ky key xs ((c - 1) / 2) ≤ ky key xs c) ∧ ∀ c, 0 < c → c < n → (c - 1) / 2 = j → 0 < j → ky key xs ((j - 1) / 2) ≤ ky key xs c
/-- .. but for the one at i, which may sink -/
def HeapDn (key : Int × Int → Int) (xs : List (Int × Int)) (n i : Nat) : Prop :=
  (∀ c, 0 < c → c < n → (c - 1) / 2 ≠ i → ky key xs ((c - 1) / 2) ≤ ky key xs c) ∧ ∀ c, 0 < c → c < n → (c - 1) / 2 = i → 0 < i → ky key xs ((i - 1) / 2) ≤ ky key xs c
theorem HeapN.nil (key : Int × Int → Int) : HeapN key [] 0 := fun c _ h => by omega
theorem HeapN.one (key : Int × Int → Int) (xs : List (Int × Int)) : HeapN key xs 1 := fun c h0 h => by omega
theorem HeapN.snoc (h : HeapN key xs n) (hl : xs.length = n) (x : Int × Int) : HeapUp key (xs ++ [x]) (n + 1) n := by
  have e : ∀ k, k < n → ky key (xs ++ [x]) k = ky key xs k := fun k hk => by
    unfold ky; rw [List.getD_eq_getElem?_getD, List.getElem?_append_left (by omega), ← List.getD_eq_getElem?_getD]
  refine ⟨fun c h0 h1 h2 => ?_, fun c h0 h1 h2 h3 => by omega⟩
  rw [e c (by omega), e _ (by omega)]
  exact h c h0 (by omega)
theorem HeapUp.top (h : HeapUp key xs n 0) : HeapN key xs n := fun c h0 h1 => h.1 c h0 h1 (by omega)
theorem HeapUp.stop {j : Nat} (h : HeapUp key xs n j) (hj : ky key xs ((j - 1) / 2) ≤ ky key xs j) : HeapN key xs n := fun c h0 h1 => by
  by_cases e : c = j
  · subst e; exact hj
  · exact h.1 c h0 h1 e
theorem HeapUp.step {i j : Nat} (h : HeapUp key xs n j) (hl : xs.length = n) (h0 : 0 < j) (hjn : j < n) (hi : i = (j - 1) / 2) (hlt : ky key xs j < ky key xs i) : HeapUp key (swp xs i j) n i := by
  have hi' : i < xs.length := by omega
  have hj' : j < xs.length := by omega
  have K := fun c => ky_swp (key := key) hi' hj' c
  refine ⟨fun c c0 c1 c2 => ?_, fun c c0 c1 c2 c3 => ?_⟩
  · by_cases e1 : c = j
    · subst e1
      rw [← hi, K i, K c, if_neg (by omega), if_pos rfl, if_pos rfl]
      omega
    · have hc := h.1 c c0 c1 e1
      rw [K c, if_neg (fun e => e1 e.symm), if_neg (fun e => c2 e.symm)]
      by_cases e2 : (c - 1) / 2 = i
      · rw [e2] at hc ⊢
        rw [K i, if_neg (by omega), if_pos rfl]
        omega
      · by_cases e3 : (c - 1) / 2 = j
        · rw [e3, K j, if_pos rfl, hi]
          exact h.2 c c0 c1 e3 h0
        · rw [K, if_neg (fun e => e3 e.symm), if_neg (fun e => e2 e.symm)]
          exact hc
  · have hp := h.1 i c3 (by omega) (by omega)
    rw [K ((i - 1) / 2), if_neg (by omega), if_neg (by omega)]
    by_cases e1 : c = j
    · subst e1
      rw [K c, if_pos rfl]
      exact hp
    · have hc := h.1 c c0 c1 e1
      rw [c2] at hc
      rw [K c, if_neg (fun e => e1 e.symm), if_neg (by omega)]
      omega
theorem HeapN.dn (h : HeapN key xs (n + 1)) (hl : xs.length = n + 1) : HeapDn key (swp xs 0 n) n 0 := by
  have K := fun c => ky_swp (key := key) (xs := xs) (i := 0) (j := n) (by omega) (by omega) c
  refine ⟨fun c c0 c1 c2 => ?_, fun c c0 c1 c2 c3 => by omega⟩
  rw [K c, K, if_neg (by omega), if_neg (by omega), if_neg (by omega), if_neg (by omega)]
  exact h c c0 (by omega)
theorem HeapDn.leaf {i : Nat} (h : HeapDn key xs n i) (hi : n ≤ 2 * i + 1) : HeapN key xs n := fun c c0 c1 => h.1 c c0 c1 (by omega)
theorem HeapDn.stop {i : Nat} (h : HeapDn key xs n i) (hi : ∀ c, 0 < c → c < n → (c - 1) / 2 = i → ky key xs i ≤ ky key xs c) : HeapN key xs n := fun c c0 c1 => by
  by_cases e : (c - 1) / 2 = i
  · rw [e]; exact hi c c0 c1 e
  · exact h.1 c c0 c1 e
theorem HeapDn.step {i j : Nat} (h : HeapDn key xs n i) (hn : n ≤ xs.length) (h0 : 0 < j) (hjn : j < n) (hi : (j - 1) / 2 = i) (hlt : ky key xs j ≤ ky key xs i) (hm : ∀ c, 0 < c → c < n → (c - 1) / 2 = i → ky key xs j ≤ ky key xs c) : HeapDn key (swp xs i j) n j := by
  have hi' : i < xs.length := by omega
  have hj' : j < xs.length := by omega
  have K := fun c => ky_swp (key := key) hi' hj' c
  refine ⟨fun c c0 c1 c2 => ?_, fun c c0 c1 c2 c3 => ?_⟩
  · by_cases e2 : (c - 1) / 2 = i
    · rw [e2, K i, if_neg (by omega), if_pos rfl]
      by_cases e1 : c = j
      · rw [e1, K j, if_pos rfl]
        exact hlt
      · rw [K c, if_neg (fun e => e1 e.symm), if_neg (by omega)]
        exact hm c c0 c1 e2
    · rw [K ((c - 1) / 2), if_neg (fun e => c2 e.symm), if_neg (fun e => e2 e.symm)]
      by_cases e1 : c = i
      · rw [e1, K i, if_neg (by omega), if_pos rfl]
        exact h.2 j h0 hjn hi (by omega)
      · rw [K c, if_neg (by omega), if_neg (fun e => e1 e.symm)]
        exact h.1 c c0 c1 e2
  · rw [K ((j - 1) / 2), hi, if_neg (by omega), if_pos rfl, K c, if_neg (by omega), if_neg (by omega)]
    have := h.1 c c0 c1 (by omega)
    rw [c2] at this
    exact this
theorem HeapN.least (h : HeapN key xs n) : ∀ c, c < n → ky key xs 0 ≤ ky key xs c := by
  intro c
  induction c using Nat.strongRecOn with
  | ind c ih =>
    intro hc
    by_cases e : c = 0
    · subst e; exact Int.le_refl _
    · have h1 := h c (by omega) hc
      have h2 := ih ((c - 1) / 2) (by omega) (by omega)
      omega
theorem HeapN.least_mem (h : HeapN key xs n) (hl : xs.length = n) {x : Int × Int} (hx : x ∈ xs) : ky key xs 0 ≤ key x := by
  obtain ⟨k, hk, rfl⟩ := mem_iff_getD.1 hx
  exact h.least k (by omega)
/-- the first elements are a heap still -/
theorem HeapN.take {m : Nat} (h : HeapN key xs n) (hm : m ≤ n) : HeapN key (xs.take m) m := fun c c0 c1 => by
  have e : ∀ k, k < m → ky key (xs.take m) k = ky key xs k := fun k hk => by
    unfold ky; rw [List.getD_eq_getElem?_getD, List.getElem?_take_of_lt hk, ← List.getD_eq_getElem?_getD]
  rw [e c c1, e _ (by omega)]
  exact h c c0 (by omega)
theorem mem_take_last {x : Int × Int} (hl : xs.length = n + 1) : x ∈ xs ↔ x = xs.getD n (0, 0) ∨ x ∈ xs.take n := by
  have e : xs = xs.take n ++ [xs.getD n (0, 0)] := by
    have := take_snoc' (0, 0) xs n (by omega)
    rw [← this, List.take_of_length_le (by omega)]
  constructor
  · intro h
    rw [e] at h
    rcases List.mem_append.1 h with h | h
    · exact .inr h
    · exact .inl (List.mem_singleton.1 h)
  · rintro (rfl | h)
    · exact mem_iff_getD.2 ⟨n, by omega, rfl⟩
    · exact List.mem_of_mem_take h
end
end Go.Proofs.Ytckjagpjljbohaa

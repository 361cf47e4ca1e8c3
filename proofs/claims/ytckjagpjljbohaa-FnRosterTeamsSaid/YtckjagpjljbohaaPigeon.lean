/- Plain laws: lists in which nothing stands twice. No program is named here. -/
import Derived.Test.YtckjagpjljbohaaBase
namespace Go.Proofs.Ytckjagpjljbohaa

theorem pigeon : ∀ (m : Nat) (xs : List Nat), xs.Nodup → (∀ x ∈ xs, x < m) → xs.length ≤ m := by
  intro m
  induction m with
  | zero =>
    intro xs _ h
    cases xs with
    | nil => exact Nat.le_refl _
    | cons x xs => exact absurd (h x (by simp)) (by omega)
  | succ m ih =>
    intro xs hn h
    have h1 := ih (xs.filter (fun x => !decide (x = m))) (hn.filter _) (fun x hx => by
      have := List.mem_filter.1 hx
      have h2 := h x this.1
      have h3 := this.2
      simp at h3
      omega)
    have h2 : xs.length ≤ (xs.filter (fun x => !decide (x = m))).length + 1 := by
      clear h1 h
      induction xs with
      | nil => simp
      | cons x xs ihx =>
        obtain ⟨n1, n2⟩ := List.nodup_cons.1 hn
        by_cases e : x = m
        · subst e
          have : xs.filter (fun y => !decide (y = x)) = xs := List.filter_eq_self.2 fun y hy => by
            have : y ≠ x := fun e => n1 (e ▸ hy)
            simp [this]
          rw [List.filter_cons, if_neg (by simp), this]
          simp
        · rw [List.filter_cons, if_pos (by simp [e])]
          have := ihx n2
          simp only [List.length_cons]
          omega
    omega
theorem nodup_le : ∀ (xs ys : List Nat), xs.Nodup → (∀ x ∈ xs, x ∈ ys) → xs.length ≤ ys.length := by
  intro xs
  induction xs with
  | nil => intro ys _ _; simp
  | cons x xs ih =>
    intro ys hn h
    obtain ⟨n1, n2⟩ := List.nodup_cons.1 hn
    have h1 : x ∈ ys := h x (by simp)
    have h2 := List.length_erase_of_mem h1
    have h3 := ih (ys.erase x) n2 (fun y hy => (List.mem_erase_of_ne (show y ≠ x from fun e => n1 (e ▸ hy))).2 (h y (by simp [hy])))
    have h4 := List.length_pos_of_mem h1
    simp only [List.length_cons]
    omega
end Go.Proofs.Ytckjagpjljbohaa

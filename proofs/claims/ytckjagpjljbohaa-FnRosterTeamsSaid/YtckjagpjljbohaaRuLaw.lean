/- Plain laws: the times from which teams are free. -/
import Derived.Test.YtckjagpjljbohaaRu4
namespace Go.Proofs.Ytckjagpjljbohaa
open Go.RowKit

/-- the times from which the twelve teams are free ahead of a run -/
def FreeAt (rs : List (Int × Int)) (rest : Int) (ro : List Int) (k : Nat) (fr : List Int) : Prop :=
  fr.length = 12 ∧ ∀ t : Nat, t < 12 → (∀ j, j < k → a1 ro j = t → b2 rs j + rest ≤ a1 fr t) ∧ (a1 fr t = 0 ∨ ∃ j, j < k ∧ a1 ro j = t ∧ a1 fr t = b2 rs j + rest)
theorem canOf_all {rs : List (Int × Int)} {rest : Int} {ro : List Int} {i : Nat} {team : Int} : ∀ n, canOf rs rest ro i team n = true ↔ ∀ j, j < n → a1 ro j = team → b2 rs j + rest ≤ a2 rs i := by
  intro n
  induction n with
  | zero => simp [canOf]
  | succ n ih =>
    rw [canOf, Bool.and_eq_true, ih]
    have hone : canOne rs rest ro i team n = true ↔ (a1 ro n = team → b2 rs n + rest ≤ a2 rs i) := by
      unfold canOne
      by_cases h : a1 ro n = team
      · simp [h]
      · simp [h]
    rw [hone]
    constructor
    · rintro ⟨h1, h2⟩ j hj he
      by_cases e : j = n
      · subst e; exact h2 he
      · exact h1 j (by omega) he
    · intro h
      exact ⟨fun j hj => h j (by omega), h n (by omega)⟩
theorem FreeAt.start (rs : List (Int × Int)) (rest : Int) (ro : List Int) : FreeAt rs rest ro 0 (List.replicate 12 0) :=
  ⟨by simp, fun t ht => ⟨fun j hj => by omega, .inl (by unfold a1; rw [List.getD_eq_getElem?_getD, List.getElem?_replicate]; simp [ht])⟩⟩
theorem FreeAt.can {rs : List (Int × Int)} {rest : Int} {ro : List Int} {k t : Nat} {fr : List Int} (h : FreeAt rs rest ro k fr) (ht : t < 12) (h0 : 0 ≤ a2 rs k) : canOf rs rest ro k t k = decide (a1 fr t ≤ a2 rs k) := by
  obtain ⟨h1, h2⟩ := h.2 t ht
  by_cases c : a1 fr t ≤ a2 rs k
  · rw [decide_eq_true c, canOf_all]
    intro j hj he
    have := h1 j hj he
    omega
  · rw [decide_eq_false c]
    cases hc : canOf rs rest ro k t k
    · rfl
    · rw [canOf_all] at hc
      rcases h2 with h2 | ⟨j, j1, j2, j3⟩
      · omega
      · have := hc j j1 j2
        omega
theorem FreeAt.next {rs : List (Int × Int)} {rest : Int} {ro : List Int} {k t : Nat} {fr : List Int} (h : FreeAt rs rest ro k fr) (ht : t < 12) (he : a1 ro k = t) (hc : a1 fr t ≤ a2 rs k) (hb : a2 rs k < b2 rs k) (h0 : 0 ≤ rest) : FreeAt rs rest ro (k + 1) (fr.set t (b2 rs k + rest)) := by
  have hl := h.1
  refine ⟨by rw [List.length_set]; exact hl, fun u hu => ?_⟩
  by_cases e : u = t
  · subst e
    have ha : a1 (fr.set u (b2 rs k + rest)) u = b2 rs k + rest := by simp [a1, List.getD_eq_getElem?_getD, List.getElem?_set_self (show u < fr.length by omega)]
    rw [ha]
    refine ⟨fun j hj hj2 => ?_, .inr ⟨k, by omega, he, rfl⟩⟩
    by_cases e2 : j = k
    · subst e2; omega
    · have := (h.2 u hu).1 j (by omega) hj2
      omega
  · have ha : a1 (fr.set t (b2 rs k + rest)) u = a1 fr u := by simp [a1, List.getD_eq_getElem?_getD, List.getElem?_set_ne (show t ≠ u from fun h => e h.symm)]
    rw [ha]
    obtain ⟨h1, h2⟩ := h.2 u hu
    refine ⟨fun j hj hj2 => ?_, ?_⟩
    · by_cases e2 : j = k
      · subst e2; rw [he] at hj2; omega
      · exact h1 j (by omega) hj2
    · rcases h2 with h2 | ⟨j, j1, j2, j3⟩
      · exact .inl h2
      · exact .inr ⟨j, by omega, j2, j3⟩
end Go.Proofs.Ytckjagpjljbohaa

/- Plain laws of roads in parts. -/
import Derived.Test.YtfnpkbfgemcbaaaPa13
import Derived.Test.YtfnpkbfgemcbaaaPa5
import Derived.Test.YtfnpkbfgemcbaaaPa6
namespace Go.Proofs.Ytfnpkbfgemcbaaa

theorem partsValid_rev {ps : List (Int × Int)} (h : partsValid ps = true) : partsValid ps.reverse = true := by
  simp only [partsValid, Bool.and_eq_true, List.all_eq_true, List.length_reverse] at *
  exact ⟨h.1, fun p hp => h.2 p (List.mem_reverse.1 hp)⟩
theorem sumB_app (ps qs : List (Int × Int)) : sumB (ps ++ qs) = sumB ps + sumB qs := by
  induction ps with
  | nil => simp [sumB]
  | cons p ps ih => simp only [sumB, List.cons_append, List.foldr_cons] at *; omega
theorem sumB_rev (ps : List (Int × Int)) : sumB ps.reverse = sumB ps := by
  induction ps with
  | nil => rfl
  | cons p ps ih => rw [List.reverse_cons, sumB_app, ih]; simp only [sumB, List.foldr_cons, List.foldr_nil]; omega
theorem partsLength_turn {ps : List (Int × Int)} (h : partsValid ps = true) : partsLength (partsTurn ps) = sumB ps := by
  rw [partsTurn, if_pos h, partsLength, if_pos (partsValid_rev h), sumB_rev]
theorem sumB_set (ps : List (Int × Int)) : ∀ (k : Nat) (v : Int × Int), k < ps.length → sumB (ps.set k v) = sumB ps - b2 ps k + v.2 := by
  induction ps with
  | nil => intro k v h; simp at h
  | cons p ps ih =>
    intro k v h
    cases k with
    | zero => simp only [List.set_cons_zero, sumB, List.foldr_cons, b2, List.getD_cons_zero]; omega
    | succ k =>
      have := ih k v (by simpa using h)
      simp only [List.set_cons_succ, sumB, List.foldr_cons, b2, List.getD_cons_succ] at *
      omega
theorem sumB_plainStep (out : List (Int × Int)) (o : Int) : sumB (plainStep out o) = sumB out + 1 := by
  by_cases h0 : out.length = 0
  · rw [plainStep_new out o (.inl h0), sumB_app]; simp [sumB]
  · obtain ⟨L, hL⟩ : ∃ L, out.length = L + 1 := ⟨out.length - 1, by omega⟩
    by_cases h : a2 out L = o
    · rw [plainStep_same out o L hL h, sumB_set _ _ _ (by omega)]; omega
    · rw [plainStep_new out o (.inr (by rw [hL]; exact h)), sumB_app]; simp [sumB]
theorem sumB_plain (os : List Int) : sumB (plain os) = os.length := by
  have : ∀ (os : List Int) (out : List (Int × Int)), sumB (os.foldl plainStep out) = sumB out + os.length := by
    intro os
    induction os with
    | nil => intro out; simp
    | cons o os ih => intro out; rw [List.foldl_cons, ih, sumB_plainStep, List.length_cons]; omega
  have h := this os []
  rw [plain, h]
  simp [sumB]
theorem partsLength_plain {ps : List (Int × Int)} (h : plainOk ps = true) : partsLength (partsPlain ps) = sumB ps := by
  have h2 := h
  simp only [plainOk, Bool.and_eq_true] at h2
  rw [partsPlain, if_pos h, partsLength, if_pos h2.2, sumB_plain, sumB_owners h2.1]
theorem length_le_sumB : ∀ (ps : List (Int × Int)), (∀ p ∈ ps, pOk p = true) → (ps.length : Int) ≤ sumB ps := by
  intro ps
  induction ps with
  | nil => intro _; simp [sumB]
  | cons p ps ih =>
    intro h
    have h1 := ih (fun q hq => h q (by simp [hq]))
    have h2 := h p (by simp)
    simp only [pOk, Bool.and_eq_true, decide_eq_true_eq] at h2
    simp only [sumB, List.foldr_cons, List.length_cons] at *
    omega
theorem length_le_sum {ps : List (Int × Int)} (h : partsValid ps = true) : (ps.length : Int) ≤ sumB ps := by
  simp only [partsValid, Bool.and_eq_true, List.all_eq_true] at h
  exact length_le_sumB ps h.2
theorem partsOwner_end {ps : List (Int × Int)} (h : partsValid ps = true) : partsOwner ps (sumB ps) = (0, false) := by
  rw [partsOwner, if_neg]
  rintro ⟨_, _, h3⟩
  rw [sumB_owners h] at h3
  omega
/-- the miles of one proprietor -/
def cntAt (i : Nat) (ps : List (Int × Int)) : Int := ps.foldr (fun p s => (if p.1.toNat = i then p.2 else 0) + s) 0
theorem cntAt_app (i : Nat) (ps qs : List (Int × Int)) : cntAt i (ps ++ qs) = cntAt i ps + cntAt i qs := by
  induction ps with
  | nil => simp [cntAt]
  | cons p ps ih => simp only [cntAt, List.cons_append, List.foldr_cons] at *; omega
theorem milesStep_at (out : List Int) (p : Int × Int) (i : Nat) (hi : i < out.length) : a1 (milesStep out p) i = a1 out i + (if p.1.toNat = i then p.2 else 0) := by
  unfold milesStep a1
  by_cases h : p.1.toNat = i
  · rw [if_pos h, h, List.getD_eq_getElem?_getD, List.getElem?_set_self hi]
    rfl
  · rw [if_neg h, List.getD_eq_getElem?_getD, List.getElem?_set_ne h, ← List.getD_eq_getElem?_getD]
    omega
theorem miles_cnt (i : Nat) : ∀ (qs : List (Int × Int)) (out : List Int), i < out.length → a1 (qs.foldl milesStep out) i = a1 out i + cntAt i qs := by
  intro qs
  induction qs with
  | nil => intro out _; simp [cntAt]
  | cons q qs ih =>
    intro out h
    rw [List.foldl_cons, ih _ (by rw [milesStep_len]; exact h), milesStep_at out q i h]
    simp only [cntAt, List.foldr_cons]
    omega
theorem miles_at (i : Nat) (hi : i < 6) (ps : List (Int × Int)) : a1 (miles ps) i = cntAt i ps := by
  rw [miles, miles_cnt i ps _ (by simp; exact hi)]
  unfold a1
  rw [List.getD_eq_getElem?_getD, List.getElem?_replicate]
  simp [hi]
theorem miles_app (i : Nat) (hi : i < 6) (ps qs : List (Int × Int)) : a1 (miles (ps ++ qs)) i = a1 (miles ps) i + a1 (miles qs) i := by
  rw [miles_at i hi, miles_at i hi, miles_at i hi, cntAt_app]
theorem owners_app (ps qs : List (Int × Int)) : owners (ps ++ qs) = owners ps ++ owners qs := by unfold owners; rw [List.flatMap_append]
theorem joinOk_all {ps qs : List (Int × Int)} (h : joinOk ps qs = true) : partsValid ps = true ∧ partsValid qs = true ∧ partsValid (ps ++ qs) = true := by
  simp only [joinOk, Bool.and_eq_true] at h
  exact ⟨h.1.1, h.1.2, h.2⟩
theorem partsOwner_in {ps : List (Int × Int)} (h : partsValid ps = true) (m : Int) (h0 : 0 ≤ m) (h1 : m < sumB ps) : partsOwner ps m = ((owners ps).getD m.toNat 0, true) := by
  rw [partsOwner, if_pos ⟨h, h0, by rw [← sumB_owners h]; exact h1⟩]
theorem partsOwner_app {ps qs : List (Int × Int)} (h : joinOk ps qs = true) (m : Int) (h0 : 0 ≤ m) (h1 : m < sumB qs) : partsOwner (ps ++ qs) (sumB ps + m) = partsOwner qs m := by
  obtain ⟨a, b, c⟩ := joinOk_all h
  have ha := sumB_owners a
  rw [partsOwner_in c _ (by omega) (by rw [sumB_app]; omega), partsOwner_in b m h0 h1, owners_app, ha]
  congr 1
  rw [List.getD_eq_getElem?_getD, List.getD_eq_getElem?_getD, List.getElem?_append_right (by omega)]
  congr 2
  omega
end Go.Proofs.Ytfnpkbfgemcbaaa

/- Plain laws of plain roads, of turned ones, of sold miles. No program is named here. -/
import Derived.Test.YtfnpkbfgemcbaaaPaLaw
import Derived.Test.YtfnpkbfgemcbaaaPa11
namespace Go.Proofs.Ytfnpkbfgemcbaaa
open Go.RowKit

theorem below_draws {B : Nat} {w w' : World} (h : Below B w w') (n : Nat) : Below B w (w'.drewN n) := by
  induction n with
  | zero => exact h
  | succ n ih => exact ih.drew
theorem owners_one (o b : Int) : owners [(o, b)] = List.replicate b.toNat o := by simp [owners]
theorem owners_plainStep {k : Int} {out : List (Int × Int)} (h : PlIn k out) (o : Int) : owners (plainStep out o) = owners out ++ [o] := by
  by_cases hn : out.length = 0 ∨ a2 out (out.length - 1) ≠ o
  · rw [plainStep_new out o hn, owners_app, owners_one]
    rfl
  · have hL : 0 < out.length := by omega
    obtain ⟨L, hl⟩ : ∃ L, out.length = L + 1 := ⟨out.length - 1, by omega⟩
    have ha : a2 out L = o := by
      have : a2 out (out.length - 1) = o := Classical.byContradiction fun q => hn (.inr q)
      rw [hl] at this
      exact this
    have hb := (h.2 L (by omega)).1
    rw [plainStep_same out o L hl ha, List.set_eq_take_append_cons_drop, if_pos (by omega), List.drop_eq_nil_of_le (by omega), owners_app, owners_one]
    have e : out = out.take L ++ [(a2 out L, b2 out L)] := by
      have h1 := take_snoc' (0, 0) out L (by omega)
      rw [List.take_of_length_le (by omega)] at h1
      exact h1
    have e2 : owners out = owners (out.take L) ++ List.replicate (b2 out L).toNat (a2 out L) := by
      have := congrArg owners e
      rw [owners_app, owners_one] at this
      exact this
    rw [e2, List.append_assoc, ha]
    congr 1
    rw [show (b2 out L + 1).toNat = (b2 out L).toNat + 1 by omega, rep_snoc]
theorem owners_fold : ∀ (os : List Int) (out : List (Int × Int)) (k : Nat), PlIn k out → owners (os.foldl plainStep out) = owners out ++ os := by
  intro os
  induction os with
  | nil => intro out k _; simp
  | cons o os ih =>
    intro out k h
    rw [List.foldl_cons, ih (plainStep out o) (k + 1) (by have := h.step (by omega) o; exact_mod_cast this), owners_plainStep h, List.append_assoc]
    rfl
/-- the miles of plain parts are the miles that came -/
theorem owners_plain (os : List Int) : owners (plain os) = os := by
  have := owners_fold os [] 0 ⟨by simp, fun j hj => by simp at hj⟩
  rw [plain, this]
  rfl
/-- no equal neighbors -/
def Apart (out : List (Int × Int)) : Prop := ∀ i, i + 1 < out.length → a2 out (i + 1) ≠ a2 out i
theorem a2_snoc (out : List (Int × Int)) (v : Int × Int) (i : Nat) : a2 (out ++ [v]) i = if i < out.length then a2 out i else if i = out.length then v.1 else 0 := by
  unfold a2
  rw [List.getD_eq_getElem?_getD]
  by_cases h : i < out.length
  · rw [if_pos h, List.getElem?_append_left h, List.getD_eq_getElem?_getD]
  · rw [if_neg h, List.getElem?_append_right (by omega)]
    by_cases e : i = out.length
    · rw [if_pos e, e]; simp
    · rw [if_neg e, List.getElem?_eq_none (by simp; omega)]; rfl
theorem a2_set (out : List (Int × Int)) (L : Nat) (b : Int) (hL : L < out.length) (i : Nat) : a2 (out.set L (a2 out L, b)) i = a2 out i := by
  by_cases e : L = i
  · subst e
    unfold a2
    rw [List.getD_eq_getElem?_getD, List.getElem?_set_self hL]
    rfl
  · unfold a2
    rw [List.getD_eq_getElem?_getD, List.getElem?_set_ne e, ← List.getD_eq_getElem?_getD]
theorem Apart.step {out : List (Int × Int)} (h : Apart out) (o : Int) : Apart (plainStep out o) := by
  by_cases hn : out.length = 0 ∨ a2 out (out.length - 1) ≠ o
  · rw [plainStep_new out o hn]
    intro i hi
    rw [List.length_append, List.length_singleton] at hi
    rw [a2_snoc, a2_snoc, if_pos (show i < out.length by omega)]
    by_cases e : i + 1 < out.length
    · rw [if_pos e]; exact h i e
    · rw [if_neg e, if_pos (by omega)]
      have : i = out.length - 1 := by omega
      rw [this]
      rcases hn with h0 | h0
      · omega
      · exact fun q => h0 q.symm
  · obtain ⟨L, hl⟩ : ∃ L, out.length = L + 1 := ⟨out.length - 1, by omega⟩
    have ha : a2 out L = o := by
      have : a2 out (out.length - 1) = o := Classical.byContradiction fun q => hn (.inr q)
      rw [hl] at this
      exact this
    rw [plainStep_same out o L hl ha]
    intro i hi
    rw [List.length_set] at hi
    rw [a2_set _ _ _ (by omega), a2_set _ _ _ (by omega)]
    exact h i hi
theorem apart_plain (os : List Int) : Apart (plain os) := by
  have : ∀ (os : List Int) (out : List (Int × Int)), Apart out → Apart (os.foldl plainStep out) := by
    intro os
    induction os with
    | nil => intro out h; exact h
    | cons o os ih => intro out h; rw [List.foldl_cons]; exact ih _ (h.step o)
  exact this os [] (fun i hi => by simp at hi)
theorem miles_of_owners {ps qs : List (Int × Int)} (hp : partsValid ps = true) (hq : partsValid qs = true) (h : owners ps = owners qs) : miles ps = miles qs := by
  simp only [partsValid, Bool.and_eq_true, List.all_eq_true] at hp hq
  have h1 := cnt_owners ps (List.replicate 6 0) (by simp) hp.2
  have h2 := cnt_owners qs (List.replicate 6 0) (by simp) hq.2
  rw [h] at h1
  rw [miles, miles, ← h1, ← h2]
theorem partsOwner_of_owners {ps qs : List (Int × Int)} (hp : partsValid ps = true) (hq : partsValid qs = true) (h : owners ps = owners qs) (m : Int) : partsOwner ps m = partsOwner qs m := by
  unfold partsOwner
  rw [hp, hq, h]
theorem sumB_of_owners {ps qs : List (Int × Int)} (hp : partsValid ps = true) (hq : partsValid qs = true) (h : owners ps = owners qs) : sumB ps = sumB qs := by
  rw [sumB_owners hp, sumB_owners hq, h]
theorem plainOk_t {ps : List (Int × Int)} (h : plainOk ps = true) : partsValid ps = true ∧ partsValid (plain (owners ps)) = true ∧ partsPlain ps = plain (owners ps) := by
  have h2 := h
  simp only [plainOk, Bool.and_eq_true] at h2
  exact ⟨h2.1, h2.2, by rw [partsPlain, if_pos h]⟩
/-- plain parts are plain -/
theorem plain_again {os : List Int} (h : partsValid (plain os) = true) : plainOk (plain os) = true ∧ partsPlain (plain os) = plain os := by
  have h1 : plainOk (plain os) = true := by rw [plainOk, owners_plain, h]; rfl
  exact ⟨h1, by rw [partsPlain, if_pos h1, owners_plain]⟩
/-- the law of FnPartsPlain -/
theorem plain_law {ps : List (Int × Int)} (h : plainOk ps = true) : ∃ Q : List (Int × Int), partsPlain ps = Q ∧ partsValid ps = true ∧ partsValid Q = true ∧ plainOk Q = true ∧ partsPlain Q = Q ∧ miles Q = miles ps ∧ Apart Q ∧ (∀ m, partsOwner Q m = partsOwner ps m) ∧ partsLength ps = sumB ps ∧ 1 ≤ sumB ps ∧ sumB ps ≤ 1188 ∧ (∀ m, 0 ≤ m → m < sumB ps → partsOwner ps m = ((owners ps).getD m.toNat 0, true)) ∧ Q.length ≤ 12 := by
  obtain ⟨v1, v2, e⟩ := plainOk_t h
  obtain ⟨g1, g2⟩ := plain_again v2
  have ho : owners (plain (owners ps)) = owners ps := owners_plain _
  have hs := sumB_owners v1
  have hl := owners_le v1
  have h1 := length_le_sum v1
  have h2 := partsValid_len v1
  exact ⟨_, e, v1, v2, g1, g2, miles_of_owners v2 v1 ho, apart_plain _, partsOwner_of_owners v2 v1 ho, by rw [partsLength, if_pos v1], by omega, by omega, fun m h0 h3 => partsOwner_in v1 m h0 h3, (partsValid_len v2).2⟩
theorem owners_rev (ps : List (Int × Int)) : owners ps.reverse = (owners ps).reverse := by
  induction ps with
  | nil => rfl
  | cons p ps ih =>
    rw [List.reverse_cons, owners_app, ih]
    have e : owners (p :: ps) = owners [p] ++ owners ps := owners_app [p] ps
    rw [e, List.reverse_append]
    congr 1
    rw [show p = (p.1, p.2) from rfl, owners_one, List.reverse_replicate]
theorem cntAt_rev (i : Nat) (ps : List (Int × Int)) : cntAt i ps.reverse = cntAt i ps := by
  induction ps with
  | nil => rfl
  | cons p ps ih =>
    rw [List.reverse_cons, cntAt_app, ih]
    simp only [cntAt, List.foldr_cons, List.foldr_nil]
    omega
theorem miles_rev (ps : List (Int × Int)) : miles ps.reverse = miles ps := by
  apply List.ext_getElem?
  intro i
  by_cases hi : i < 6
  · have h1 := miles_at i hi ps
    have h2 := miles_at i hi ps.reverse
    rw [cntAt_rev] at h2
    unfold a1 at h1 h2
    rw [List.getD_eq_getElem?_getD, List.getElem?_eq_getElem (by rw [miles_len]; exact hi), Option.getD_some] at h1 h2
    rw [List.getElem?_eq_getElem (by rw [miles_len]; exact hi), List.getElem?_eq_getElem (by rw [miles_len]; exact hi), h1, h2]
  · rw [List.getElem?_eq_none (by rw [miles_len]; omega), List.getElem?_eq_none (by rw [miles_len]; omega)]
end Go.Proofs.Ytfnpkbfgemcbaaa

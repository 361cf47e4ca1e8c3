/- Plain laws of FnPartsOwner, FnPartsSell. No program is named here. -/
import Derived.Test.YtfnpkbfgemcbaaaPs3
namespace Go.Proofs.Ytfnpkbfgemcbaaa
open Go.RowKit

theorem partsOwner_cases (ps : List (Int × Int)) (m : Int) : (partsOwner ps m = (0, false)) ∨ ∃ (k : Nat) (o : Int), m = k ∧ k < (owners ps).length ∧ (owners ps).getD k 0 = o ∧ partsValid ps = true ∧ partsOwner ps m = (o, true) := by
  unfold partsOwner
  by_cases h : partsValid ps = true ∧ 0 ≤ m ∧ m < (owners ps).length
  · rw [if_pos h]
    exact .inr ⟨m.toNat, _, by omega, by omega, rfl, h.1, rfl⟩
  · rw [if_neg h]
    exact .inl rfl
/-- a mile that its owner buys -/
theorem soldO_self {os : List Int} {k : Nat} (_hk : k < os.length) : soldO os (k : Int) ((k : Int) + 1) (os.getD k 0) = os := by
  apply List.ext_getElem
  · simp [soldO]
  · intro i h1 h2
    simp only [soldO, List.getElem_map, List.getElem_range]
    by_cases c : (k : Int) ≤ (i : Int) ∧ (i : Int) < (k : Int) + 1
    · obtain rfl : i = k := by omega
      rw [if_pos c, List.getD_eq_getElem?_getD, List.getElem?_eq_getElem h2]
      rfl
    · rw [if_neg c, List.getD_eq_getElem?_getD, List.getElem?_eq_getElem h2]
      rfl
/-- the law of FnPartsOwner -/
theorem owner_law {ps : List (Int × Int)} (hv : partsValid ps = true) {k : Nat} (hk : k < (owners ps).length) {o : Int} (ho : (owners ps).getD k 0 = o) :
    partsValid ps.reverse = true ∧ partsTurn ps = ps.reverse ∧ partsLength ps = sumB ps ∧ sumB ps = (owners ps).length ∧ (owners ps).length ≤ 1188 ∧ partsOwner ps.reverse (sumB ps - 1 - k) = (o, true) ∧ sellOk ps k ((k : Int) + 1) o = plainOk ps ∧ partsSell ps k ((k : Int) + 1) o = partsPlain ps := by
  have hs := sumB_owners hv
  have hl := owners_le hv
  have hv2 := partsValid_rev hv
  have hin := owners_val hv o (by rw [← ho, List.getD_eq_getElem?_getD, List.getElem?_eq_getElem hk]; exact List.getElem_mem hk)
  have hso : soldO (owners ps) k ((k : Int) + 1) o = owners ps := by rw [← ho]; exact soldO_self hk
  have hok : sellIn ps k ((k : Int) + 1) o = true := by
    simp only [sellIn, rideOk, Bool.and_eq_true, decide_eq_true_eq]
    exact ⟨⟨hv, by omega, by omega, by omega⟩, hin.1, hin.2⟩
  have e1 : sellOk ps k ((k : Int) + 1) o = plainOk ps := by rw [sellOk, hok, hso, plainOk, hv]
  refine ⟨hv2, by rw [partsTurn, if_pos hv], by rw [partsLength, if_pos hv], hs, hl, ?_, e1, by rw [partsSell, e1, hso, partsPlain]⟩
  rw [partsOwner_in hv2 _ (by omega) (by rw [sumB_rev]; omega), owners_rev, ← ho]
  congr 1
  rw [List.getD_eq_getElem?_getD, List.getD_eq_getElem?_getD, List.getElem?_reverse (by omega)]
  congr 2
  omega
/-- the law of FnPartsSell -/
theorem sell_law {ps : List (Int × Int)} {f t o : Int} (h : sellOk ps f t o = true) : ∃ Q : List (Int × Int), partsSell ps f t o = Q ∧ partsValid ps = true ∧ partsValid Q = true ∧ Q.length ≤ 12 ∧ plainOk Q = true ∧ partsPlain Q = Q ∧ partsLength ps = sumB ps ∧ partsLength Q = sumB ps ∧ 1 ≤ sumB ps ∧ sumB ps ≤ 1188 ∧ ∀ k : Nat, (k : Int) < sumB ps → ∃ a b : Int, partsOwner ps k = (a, true) ∧ partsOwner Q k = (b, true) ∧ (f ≤ (k : Int) ∧ (k : Int) < t → b = o) ∧ (¬ (f ≤ (k : Int) ∧ (k : Int) < t) → b = a) := by
  have h2 := h
  rw [sellOk, Bool.and_eq_true] at h2
  obtain ⟨hr, _, _⟩ := sellIn_t h2.1
  obtain ⟨hv, f0, ft, tS, hS, hle⟩ := rideOk_t hr
  obtain ⟨g1, g2⟩ := plain_again h2.2
  have ho := owners_plain (soldO (owners ps) f t o)
  have hs2 := sumB_owners h2.2
  rw [ho, soldO_len] at hs2
  refine ⟨_, by rw [partsSell, if_pos h], hv, h2.2, (partsValid_len h2.2).2, g1, g2, by rw [partsLength, if_pos hv], by rw [partsLength, if_pos h2.2]; omega, by omega, by omega, fun k hk => ?_⟩
  have hkl : k < (owners ps).length := by omega
  refine ⟨_, _, partsOwner_in hv k (by omega) hk, partsOwner_in h2.2 k (by omega) (by omega), ?_, ?_⟩
  · rintro ⟨c1, c2⟩
    rw [ho, Int.toNat_natCast, soldO_at _ _ _ _ hkl, if_pos ⟨c1, c2⟩]
  · intro c
    rw [ho, Int.toNat_natCast, soldO_at _ _ _ _ hkl, if_neg c]
end Go.Proofs.Ytfnpkbfgemcbaaa

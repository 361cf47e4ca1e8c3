/- The walk of FnPartsLength. -/
import Derived.Test.YtingidljlfblnaaDrPa
import Derived.Test.YtingidljlfblnaaPaLaw
namespace Go.Proofs.Ytingidljlfblnaa.fnPartsLength
open Go.RowKit

set_option maxHeartbeats 2000000 in
theorem walk (A : Option Addr) (xs : List Int) (n c : Nat) (w : World) (hl : xs.length = n) (hm : n ≤ maxLen) (hc : n ≤ c) (hx : Bytes xs) (hr : Rd w A (flU xs)) :
    Calls Try.prog 11 #[.slice A n c] w (Ret w (.bool true)) := by
  unfold maxLen at hm
  by_cases hn : n ≤ 1048576
  · go_enter Try.func11, Try.ntmps11
    go_wp2_with fail
    refine (DrawPartsLength_any _ xs _ _ _ hl hn hc hx hr).mono ?_
    rintro e w1 ⟨ps, A1, n1, c1, rfl, hl1, hn1, ho1, hb1⟩
    have Hl1 := hideIt hl1
    clear hl1
    cases hv : partsValid ps
    · have Hv := hideIt hv
      clear hv
      have hpl : partsLength ps = -1 := by rw [partsLength, Hv.out]; rfl
      go_wp2_with fail
      refine (implPartsLength_any _ _ _ _ _ Hl1.out (by omega) (Rd.of_own ho1)).mono ?_
      rw [hpl]
      rintro e w2 ⟨rfl, hb2⟩
      have b2 := hb1.trans (hb2.mono hb1.size)
      go_wp2_with fail
      refine (specPartsLength_any _ _ _ _ _ Hl1.out (by omega) (Rd.of_own (own_below ho1 hb2 (Nat.le_refl _)))).mono ?_
      rw [hpl]
      rintro e w3 ⟨rfl, hb3⟩
      clear hpl
      go_wp2
      go_ret
      exact ⟨rfl, b2.trans (hb3.mono b2.size)⟩
    · have Hv := hideIt hv
      clear hv
      obtain ⟨S, hS⟩ : ∃ S, sumB ps = S := ⟨_, rfl⟩
      have h1 := length_le_sum Hv.out
      have h2 := owners_le Hv.out
      have h3 := sumB_owners Hv.out
      rw [Hl1.out] at h1
      have hS2 : S ≤ 1188 := by omega
      rw [hS] at h1
      have hS0 : 0 ≤ S := by omega
      have HS := hideIt hS
      clear hS h2 h3
      have hpl : partsLength ps = S := by rw [partsLength, if_pos Hv.out, HS.out]
      have hpt : partsLength (partsTurn ps) = S := by rw [partsLength_turn Hv.out, HS.out]
      have hpo : partsOwner ps S = (0, false) := by rw [← HS.out]; exact partsOwner_end Hv.out
      have Hpl := hideIt hpl
      have Hpt := hideIt hpt
      have Hpo := hideIt hpo
      clear hpl hpt hpo
      go_wp2_with fail
      refine (implPartsLength_any _ _ _ _ _ Hl1.out (by omega) (Rd.of_own ho1)).mono ?_
      rw [Hpl.out]
      rintro e w2 ⟨rfl, hb2⟩
      have b2 := hb1.trans (hb2.mono hb1.size)
      have ho2 := own_below ho1 hb2 (Nat.le_refl _)
      go_wp2_with fail
      refine (specPartsLength_any _ _ _ _ _ Hl1.out (by omega) (Rd.of_own ho2)).mono ?_
      rw [Hpl.out]
      rintro e w3 ⟨rfl, hb3⟩
      have b3 := b2.trans (hb3.mono b2.size)
      have ho3 := own_below ho2 hb3 (Nat.le_refl _)
      go_wp2_with fail
      refine (implPartsTurn_any _ _ _ _ _ Hl1.out (by omega) (Rd.of_own ho3)).mono ?_
      rw [Hv.out]
      rintro e w4 ⟨A4, c4, rfl, hoA4, hb4⟩
      have b4 := b3.trans (hb4.mono b3.size)
      have ho4 := own_below ho3 hb4 (Nat.le_refl _)
      go_wp2_with fail
      refine (implPartsPlain_any _ _ _ _ _ Hl1.out (by omega) (Rd.of_own ho4)).mono ?_
      rintro e w5 ⟨A5, c5, rfl, hoB5, hb5⟩
      have b5 := b4.trans (hb5.mono b4.size)
      have ho5 := own_below ho4 hb5 (Nat.le_refl _)
      have hoA5 := own_below hoA4 hb5 (Nat.le_refl _)
      go_wp2_with fail
      refine (implPartsOwner_any _ _ _ _ S _ Hl1.out (by omega) (Rd.of_own ho5)).mono ?_
      rw [Hpo.out]
      rintro e w6 ⟨rfl, hb6⟩
      have b6 := b5.trans (hb6.mono b5.size)
      have hoA6 := own_below hoA5 hb6 (Nat.le_refl _)
      have hoB6 := own_below hoB5 hb6 (Nat.le_refl _)
      clear ho1 ho2 ho3 ho4 ho5 hoA4 hoA5 hoB5 hb1 hb2 hb3 hb4 hb5 hb6 b2 b3 b4 b5
      go_wp2_with fail
      refine (implPartsLength_any _ _ _ _ _ rfl (partsTurn_le ps _ Hl1.out (by omega)) (Rd.of_own hoA6)).mono ?_
      rw [Hpt.out]
      rintro e w7 ⟨rfl, hb7⟩
      have b7 := b6.trans (hb7.mono b6.size)
      have hoB7 := own_below hoB6 hb7 (Nat.le_refl _)
      cases hq : plainOk ps
      · have Hq := hideIt hq
        clear hq
        go_wp2_with fail
        go_ret
        exact ⟨rfl, b7⟩
      · have hpp : partsLength (partsPlain ps) = S := by rw [partsLength_plain hq, HS.out]
        have Hpp := hideIt hpp
        clear hq hpp
        go_wp2_with fail
        refine (implPartsLength_any _ _ _ _ _ rfl (partsPlain_le ps) (Rd.of_own hoB7)).mono ?_
        rw [Hpp.out]
        rintro e w8 ⟨rfl, hb8⟩
        go_wp2_with fail
        go_ret
        exact ⟨rfl, b7.trans (hb8.mono b7.size)⟩
  · go_enter Try.func11, Try.ntmps11
    go_wp2_with fail
    go_ret
    exact ⟨rfl, Below.refl _ _⟩
end Go.Proofs.Ytingidljlfblnaa.fnPartsLength

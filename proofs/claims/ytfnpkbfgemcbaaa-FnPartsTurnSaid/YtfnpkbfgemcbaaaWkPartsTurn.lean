/- The walk of FnPartsTurn. -/
import Derived.Test.YtfnpkbfgemcbaaaDrPa2
import Derived.Test.YtfnpkbfgemcbaaaPlLaw
import Derived.Test.YtfnpkbfgemcbaaaShMk
import Derived.Test.YtfnpkbfgemcbaaaSame
import Derived.Test.YtfnpkbfgemcbaaaSameP
namespace Go.Proofs.Ytfnpkbfgemcbaaa.fnPartsTurn
open Go.RowKit

set_option maxRecDepth 100000 in
set_option maxHeartbeats 4000000 in
theorem walk (A : Option Addr) (xs : List Int) (n c : Nat) (A' : Option Addr) (xs' : List Int) (n' c' : Nat) (w : World) (hl : xs.length = n) (hm : n ≤ maxLen) (hc : n ≤ c) (hx : Bytes xs) (hr : Rd w A (flU xs))
    (_hl' : xs'.length = n') (hm' : n' ≤ maxLen) (_hc' : n' ≤ c') (_hx' : Bytes xs') (_hr' : Rd w A' (flU xs')) :
    Calls Try.prog 7 #[.slice A n c, .slice A' n' c'] w (Ret w (.bool true)) := by
  unfold maxLen at hm hm'
  by_cases hn : n ≤ 1048576
  rotate_left
  · go_enter Try.func7, Try.ntmps7
    go_wp2_with fail
    go_ret
    exact ⟨rfl, Below.refl _ _⟩
  by_cases hn' : n' ≤ 1048576
  rotate_left
  · go_enter Try.func7, Try.ntmps7
    go_wp2_with fail
    go_ret
    exact ⟨rfl, Below.refl _ _⟩
  go_enter Try.func7, Try.ntmps7
  go_wp2_with fail
  refine (DrawPartsTurn_any _ xs _ _ _ hl hn hc hx hr).mono ?_
  clear hl _hl' hr _hr' hx _hx'
  rintro e w1 ⟨ps, a, m, d, rfl, hl1, hm1, ho1, hb1⟩
  have Hl1 := hideIt hl1
  clear hl1
  cases hok : partsValid ps
  · have Hok := hideIt hok
    have hp : partsTurn ps = [] := by rw [partsTurn, hok]; rfl
    have Hp := hideIt hp
    clear hok hp
    go_wp2_with fail
    refine (implPartsTurn_any _ _ _ _ _ Hl1.out (by omega) (Rd.of_own ho1)).mono ?_
    rw [Hok.out, Hp.out]
    rintro e w2 ⟨A2, c2, rfl, _, hb2⟩
    have q2 := hb1.trans (hb2.mono hb1.size)
    go_wp2_with fail
    refine (specPartsTurn_any _ _ _ _ _ Hl1.out (by omega) (Rd.of_own (own_below ho1 hb2 (Nat.le_refl _)))).mono ?_
    rw [Hok.out, Hp.out]
    rintro e w3 ⟨A3, c3, rfl, _, hb3⟩
    have q3 := q2.trans (hb3.mono q2.size)
    go_wp2_with fail
    refine (sameParts_any _ _ [] [] _ _ _ _ _ rfl rfl (Nat.zero_le _) (Nat.zero_le _) (Rd.nil _ _) (Rd.nil _ _)).mono ?_
    rintro e w4 ⟨rfl, hb4⟩
    have q4 := q3.trans (hb4.mono q3.size)
    go_wp2_with fail
    refine (sameParts_any _ _ [] [] _ _ _ _ _ rfl rfl (Nat.zero_le _) (Nat.zero_le _) (Rd.nil _ _) (Rd.nil _ _)).mono ?_
    rintro e w5 ⟨rfl, hb5⟩
    go_wp2
    go_ret
    exact ⟨rfl, q4.trans (hb5.mono q4.size)⟩
  have hv2 := partsValid_rev hok
  obtain ⟨S, hS⟩ : ∃ q, sumB ps = q := ⟨_, rfl⟩
  obtain ⟨M, hM⟩ : ∃ q, miles ps = q := ⟨_, rfl⟩
  have hMl : M.length = 6 := by rw [← hM, miles_len]
  have hm1' := (partsValid_len hok).1
  rw [Hl1.out] at hm1'
  obtain ⟨p, hp⟩ : ∃ p, n' % 500 = p := ⟨_, rfl⟩
  have hp5 : p < 500 := by rw [← hp]; exact Nat.mod_lt _ (by omega)
  have hrem : (n' : Int).tmod 500 = (p : Int) := by rw [← hp]; rfl
  have hrem2 : (n' : Int) % 500 = (p : Int) := by rw [← hp]; rfl
  have Hok := hideIt hok
  have HT := hideIt (show partsTurn ps = ps.reverse by rw [partsTurn, hok]; rfl)
  have HT2 := hideIt (show partsTurn ps.reverse = ps by rw [partsTurn, hv2, List.reverse_reverse]; rfl)
  have Hv2 := hideIt hv2
  have Hrl := hideIt (show ps.reverse.length = m by rw [List.length_reverse, Hl1.out])
  have HM := hideIt (show partsMiles ps = M by rw [partsMiles_t hok, hM])
  have HM2 := hideIt (show partsMiles ps.reverse = M by rw [partsMiles_t hv2, miles_rev, hM])
  have HMl := hideIt hMl
  have Hmm := hideIt (miles_rev ps)
  have Hss := hideIt (sumB_rev ps)
  clear hok hv2 hS hM hMl hp
  go_wp2_with fail
  refine (implPartsTurn_any _ _ _ _ _ Hl1.out (by omega) (Rd.of_own ho1)).mono ?_
  rw [Hok.out, HT.out, Hrl.out]
  rintro e w2 ⟨A2, c2, rfl, hQ2, hb2⟩
  obtain ⟨g, rfl, _, _⟩ := own_some hQ2 (by omega)
  have q2 := hb1.trans (hb2.mono hb1.size)
  have ho2 := own_below ho1 hb2 (Nat.le_refl _)
  clear hb1 hb2 ho1
  go_wp2_with fail
  refine (specPartsTurn_any _ _ _ _ _ Hl1.out (by omega) (Rd.of_own ho2)).mono ?_
  rw [Hok.out, HT.out, Hrl.out]
  rintro e w3 ⟨A3, d3, rfl, hx3, hb3⟩
  have q3 := q2.trans (hb3.mono q2.size)
  have ho3 := own_below ho2 hb3 (Nat.le_refl _)
  have hQ3 := own_below hQ2 hb3 (Nat.le_refl _)
  clear q2 hb3 ho2 hQ2
  go_wp2_with fail
  refine (sameParts_any _ _ _ _ _ _ _ _ _ Hrl.out Hrl.out (by omega) (by omega) (Rd.of_own hQ3) (Rd.of_own hx3)).mono ?_
  rw [decide_eq_true rfl]
  rintro e w4 ⟨rfl, hb4⟩
  have q4 := q3.trans (hb4.mono q3.size)
  have rP := Rd.of_own (own_below ho3 hb4 (Nat.le_refl _))
  have rQ := Rd.of_own (own_below hQ3 hb4 (Nat.le_refl _))
  clear q3 hb4 ho3 hQ3 hx3
  go_wp2_with fail
  refine (implPartsTurn_any _ _ _ _ _ Hrl.out (by omega) rQ).mono ?_
  rw [Hv2.out, HT2.out, Hl1.out]
  rintro e w5 ⟨A5, d5, rfl, hX5, hb5⟩
  have q5 := q4.trans (hb5.mono q4.size)
  have rP5 := rP.below hb5 (Nat.le_refl _)
  have rQ5 := rQ.below hb5 (Nat.le_refl _)
  have rX5 := Rd.of_own hX5
  clear q4 hb5 rP rQ hX5
  go_wp2_with fail
  refine (implPartsMiles_any _ _ _ _ _ Hl1.out (by omega) rP5).mono ?_
  rw [Hok.out, HM.out, HMl.out]
  rintro e w6 ⟨A6, d6, rfl, hm6, hb6⟩
  have q6 := q5.trans (hb6.mono q5.size)
  have rP6 := rP5.below hb6 (Nat.le_refl _)
  have rQ6 := rQ5.below hb6 (Nat.le_refl _)
  have rX6 := rX5.below hb6 (Nat.le_refl _)
  have rM6 := Rd.of_own hm6
  clear q5 hb6 rP5 rQ5 rX5 hm6
  go_wp2_with fail
  refine (implPartsMiles_any _ _ _ _ _ Hrl.out (by omega) rQ6).mono ?_
  rw [Hv2.out, HM2.out, HMl.out]
  rintro e w7 ⟨A7, d7, rfl, hn7, hb7⟩
  have q7 := q6.trans (hb7.mono q6.size)
  have rP7 := rP6.below hb7 (Nat.le_refl _)
  have rQ7 := rQ6.below hb7 (Nat.le_refl _)
  have rX7 := rX6.below hb7 (Nat.le_refl _)
  have rM7 := rM6.below hb7 (Nat.le_refl _)
  have rN7 := Rd.of_own hn7
  clear q6 hb7 rP6 rQ6 rX6 rM6 hn7
  go_wp2_with fail
  refine (implShareMake_t _ ps _ _ (p : Int) _ Hl1.out (by omega) rP7 Hok.out (by omega) (by omega)).mono ?_
  rintro e w8 ⟨R, hR, A8, d8, rfl, hs8, hb8⟩
  have HR : Hid (ShareIs (miles ps) (sumB ps) p R) := hideIt hR
  have HRl := hideIt hR.len
  have q8 := q7.trans (hb8.mono q7.size)
  have rP8 := rP7.below hb8 (Nat.le_refl _)
  have rQ8 := rQ7.below hb8 (Nat.le_refl _)
  have rX8 := rX7.below hb8 (Nat.le_refl _)
  have rM8 := rM7.below hb8 (Nat.le_refl _)
  have rN8 := rN7.below hb8 (Nat.le_refl _)
  have rS8 := Rd.of_own hs8
  clear q7 hb8 rP7 rQ7 rX7 rM7 rN7 hs8 hR
  go_wp2_with fail
  refine (implShareMake_t _ ps.reverse _ _ (p : Int) _ Hrl.out (by omega) rQ8 Hv2.out (by omega) (by omega)).mono ?_
  rintro e w9 ⟨R', hR', A9, d9, rfl, hs9, hb9⟩
  rw [Hmm.out, Hss.out] at hR'
  obtain rfl : R = R' := HR.out.one hR'
  have q9 := q8.trans (hb9.mono q8.size)
  have rP9 := rP8.below hb9 (Nat.le_refl _)
  have rX9 := rX8.below hb9 (Nat.le_refl _)
  have rM9 := rM8.below hb9 (Nat.le_refl _)
  have rN9 := rN8.below hb9 (Nat.le_refl _)
  have rS9 := rS8.below hb9 (Nat.le_refl _)
  have rU9 := Rd.of_own hs9
  clear q8 hb9 rP8 rQ8 rX8 rM8 rN8 hs9 hR' rS8
  go_wp2_with fail
  refine (sameParts_any _ _ _ _ _ _ _ _ _ Hl1.out Hl1.out (by omega) (by omega) rX9 rP9).mono ?_
  rw [decide_eq_true rfl]
  rintro e w10 ⟨rfl, hb10⟩
  have q10 := q9.trans (hb10.mono q9.size)
  go_wp2_with fail
  refine (sameInts_any _ _ _ _ _ _ _ _ _ HMl.out HMl.out (by omega) (by omega) (rM9.below hb10 (Nat.le_refl _)) (rN9.below hb10 (Nat.le_refl _))).mono ?_
  rw [decide_eq_true rfl]
  rintro e w11 ⟨rfl, hb11⟩
  have q11 := q10.trans (hb11.mono q10.size)
  have s11 := hb10.trans (hb11.mono hb10.size)
  go_wp2_with fail
  refine (sameInts_any _ _ _ _ _ _ _ _ _ HRl.out HRl.out (by omega) (by omega) (rS9.below s11 (Nat.le_refl _)) (rU9.below s11 (Nat.le_refl _))).mono ?_
  rw [decide_eq_true rfl]
  rintro e w12 ⟨rfl, hb12⟩
  go_wp2
  go_ret
  exact ⟨rfl, q11.trans (hb12.mono q11.size)⟩
end Go.Proofs.Ytfnpkbfgemcbaaa.fnPartsTurn

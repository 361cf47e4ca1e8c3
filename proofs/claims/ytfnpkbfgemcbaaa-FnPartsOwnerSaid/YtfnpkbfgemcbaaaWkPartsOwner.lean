/- The walk of FnPartsOwner. -/
import Derived.Test.YtfnpkbfgemcbaaaDrPa2
import Derived.Test.YtfnpkbfgemcbaaaSeLaw
import Derived.Test.YtfnpkbfgemcbaaaSameP
namespace Go.Proofs.Ytfnpkbfgemcbaaa.fnPartsOwner
open Go.RowKit

set_option maxRecDepth 100000 in
set_option maxHeartbeats 4000000 in
theorem walk (A : Option Addr) (xs : List Int) (n c : Nat) (w : World) (hl : xs.length = n) (hm : n ≤ maxLen) (hc : n ≤ c) (hx : Bytes xs) (hr : Rd w A (flU xs)) :
    Calls Try.prog 5 #[.slice A n c] w (Ret w (.bool true)) := by
  unfold maxLen at hm
  by_cases hn : n ≤ 1048576
  rotate_left
  · go_enter Try.func5, Try.ntmps5
    go_wp2_with fail
    go_ret
    exact ⟨rfl, Below.refl _ _⟩
  go_enter Try.func5, Try.ntmps5
  go_wp2_with fail
  refine (DrawPartsOwner_any _ xs _ _ _ hl hn hc hx hr).mono ?_
  clear hl hr hx
  rintro e w1 ⟨ps, ad, m, d, mile, rfl, hl1, hm1, alo, ahi, ho1, hb1⟩
  have Hl1 := hideIt hl1
  clear hl1
  have rP := Rd.of_own ho1
  clear ho1
  rcases partsOwner_cases ps mile with h | ⟨k, o, rfl, hk, ho, hv, h⟩
  · have H := hideIt h
    clear h
    go_wp2_with fail
    refine (implPartsOwner_any _ _ _ _ mile _ Hl1.out (by omega) rP).mono ?_
    rw [H.out]
    rintro e w2 ⟨rfl, hb2⟩
    have q2 := hb1.trans (hb2.mono hb1.size)
    go_wp2_with fail
    refine (specPartsOwner_any _ _ _ _ mile _ Hl1.out (by omega) (rP.below hb2 (Nat.le_refl _))).mono ?_
    rw [H.out]
    rintro e w3 ⟨rfl, hb3⟩
    go_wp2
    go_ret
    exact ⟨rfl, q2.trans (hb3.mono q2.size)⟩
  have H := hideIt h
  obtain ⟨v2, hT, hL, hS, hle, hrev, hok, hsell⟩ := owner_law hv hk ho
  obtain ⟨S, hSe⟩ : ∃ S, sumB ps = S := ⟨_, rfl⟩
  rw [hSe] at hL hS hrev
  have hkS : (k : Int) < S := by omega
  have hS9 : S ≤ 1188 := by omega
  have hm1' := (partsValid_len hv).1
  rw [Hl1.out] at hm1'
  have Hv := hideIt hv
  have HT := hideIt hT
  have HL := hideIt hL
  have Hrev := hideIt hrev
  have Hrl := hideIt (show ps.reverse.length = m by rw [List.length_reverse, Hl1.out])
  obtain ⟨r, hre⟩ : ∃ r, plainOk ps = r := ⟨_, rfl⟩
  obtain ⟨Q, hQe⟩ : ∃ r, partsPlain ps = r := ⟨_, rfl⟩
  have hQl : Q.length ≤ 1048576 := by rw [← hQe]; exact partsPlain_le ps
  rw [hre] at hok
  rw [hQe] at hsell
  have Hok := hideIt hok
  have Hsell := hideIt hsell
  have Hre := hideIt hre
  have HQe := hideIt hQe
  have HQl := hideIt hQl
  have hw1 : IntKind.i64.wrap (S - 1) = S - 1 := IntWalk.i64_in _ (by omega)
  have hw2 : IntKind.i64.wrap (S - 1 - (k : Int)) = S - 1 - (k : Int) := IntWalk.i64_in _ (by omega)
  have hw3 : IntKind.i64.wrap ((k : Int) + 1) = (k : Int) + 1 := IntWalk.i64_in _ (by omega)
  clear h hv v2 hT hL hS hle hrev hok hsell hk ho hSe hre hQe hQl
  go_wp2_with fail
  refine (implPartsOwner_any _ _ _ _ (k : Int) _ Hl1.out (by omega) rP).mono ?_
  rw [H.out]
  rintro e w2 ⟨rfl, hb2⟩
  have q2 := hb1.trans (hb2.mono hb1.size)
  have rP2 := rP.below hb2 (Nat.le_refl _)
  clear hb1 hb2 rP
  go_wp2_with fail
  refine (specPartsOwner_any _ _ _ _ (k : Int) _ Hl1.out (by omega) rP2).mono ?_
  rw [H.out]
  rintro e w3 ⟨rfl, hb3⟩
  have q3 := q2.trans (hb3.mono q2.size)
  have rP3 := rP2.below hb3 (Nat.le_refl _)
  clear q2 hb3 rP2
  go_wp2_with fail
  refine (implPartsTurn_any _ _ _ _ _ Hl1.out (by omega) rP3).mono ?_
  rw [Hv.out, HT.out, Hrl.out]
  rintro e w4 ⟨A4, c4, rfl, ht4, hb4⟩
  have q4 := q3.trans (hb4.mono q3.size)
  have rP4 := rP3.below hb4 (Nat.le_refl _)
  have rT4 := Rd.of_own ht4
  clear q3 hb4 rP3 ht4
  go_wp2_with fail
  refine (implPartsLength_any _ _ _ _ _ Hl1.out (by omega) rP4).mono ?_
  rw [HL.out]
  rintro e w5 ⟨rfl, hb5⟩
  have q5 := q4.trans (hb5.mono q4.size)
  have rP5 := rP4.below hb5 (Nat.le_refl _)
  have rT5 := rT4.below hb5 (Nat.le_refl _)
  clear q4 hb5 rP4 rT4
  go_wp2_with fail
  refine (implPartsOwner_any _ _ _ _ (S - 1 - (k : Int)) _ Hrl.out (by omega) rT5).mono ?_
  rw [Hrev.out]
  rintro e w6 ⟨rfl, hb6⟩
  have q6 := q5.trans (hb6.mono q5.size)
  have rP6 := rP5.below hb6 (Nat.le_refl _)
  clear q5 hb6 rP5 rT5
  go_wp2_with fail
  refine (implPartsSell_any _ _ _ _ (k : Int) ((k : Int) + 1) o _ Hl1.out (by omega) rP6).mono ?_
  rw [Hok.out, Hsell.out]
  rintro e w7 ⟨A7, c7, rfl, hs7, hb7⟩
  have q7 := q6.trans (hb7.mono q6.size)
  have rP7 := rP6.below hb7 (Nat.le_refl _)
  have rS7 := Rd.of_own hs7
  clear q6 hb7 rP6 hs7
  go_wp2_with fail
  refine (implPartsPlain_any _ _ _ _ _ Hl1.out (by omega) rP7).mono ?_
  rw [Hre.out, HQe.out]
  rintro e w8 ⟨A8, c8, rfl, hp8, hb8⟩
  have q8 := q7.trans (hb8.mono q7.size)
  have rS8 := rS7.below hb8 (Nat.le_refl _)
  have rQ8 := Rd.of_own hp8
  clear q7 hb8 rP7 rS7 hp8
  go_wp2_with fail
  refine (sameParts_any _ _ _ _ _ _ _ _ _ rfl rfl HQl.out HQl.out rS8 rQ8).mono ?_
  rw [decide_eq_true rfl]
  rintro e w9 ⟨rfl, hb9⟩
  go_wp2
  go_ret
  exact ⟨by simp, q8.trans (hb9.mono q8.size)⟩
end Go.Proofs.Ytfnpkbfgemcbaaa.fnPartsOwner

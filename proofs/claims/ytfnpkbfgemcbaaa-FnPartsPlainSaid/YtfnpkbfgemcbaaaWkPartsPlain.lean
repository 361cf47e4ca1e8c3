/- The walk of FnPartsPlain. -/
import Derived.Test.YtfnpkbfgemcbaaaDrPa2
import Derived.Test.YtfnpkbfgemcbaaaPlLaw
import Derived.Test.YtfnpkbfgemcbaaaSame
import Derived.Test.YtfnpkbfgemcbaaaSameP
namespace Go.Proofs.Ytfnpkbfgemcbaaa.fnPartsPlain
open Go.RowKit

set_option maxRecDepth 100000 in
set_option maxHeartbeats 4000000 in
theorem walk (A : Option Addr) (xs : List Int) (n c : Nat) (A' : Option Addr) (xs' : List Int) (n' c' : Nat) (w : World) (hl : xs.length = n) (hm : n ≤ maxLen) (hc : n ≤ c) (hx : Bytes xs) (hr : Rd w A (flU xs))
    (_hl' : xs'.length = n') (hm' : n' ≤ maxLen) (_hc' : n' ≤ c') (_hx' : Bytes xs') (_hr' : Rd w A' (flU xs')) :
    Calls Try.prog 4 #[.slice A n c, .slice A' n' c'] w (Ret w (.bool true)) := by
  unfold maxLen at hm hm'
  by_cases hn : n ≤ 1048576
  rotate_left
  · go_enter Try.func4, Try.ntmps4
    go_wp2_with fail
    go_ret
    exact ⟨rfl, Below.refl _ _⟩
  by_cases hn' : n' ≤ 1048576
  rotate_left
  · go_enter Try.func4, Try.ntmps4
    go_wp2_with fail
    go_ret
    exact ⟨rfl, Below.refl _ _⟩
  go_enter Try.func4, Try.ntmps4
  go_wp2_with fail
  refine (DrawPartsPlain_any _ xs _ _ _ hl hn hc hx hr).mono ?_
  clear hl _hl' hr _hr' hx _hx'
  rintro e w1 ⟨ps, a, m, d, rfl, hl1, hm1, ho1, hb1⟩
  have Hl1 := hideIt hl1
  clear hl1
  cases hok : plainOk ps
  · have Hok := hideIt hok
    have hp : partsPlain ps = [] := by rw [partsPlain, hok]; rfl
    have Hp := hideIt hp
    clear hok hp
    go_wp2_with fail
    refine (implPartsPlain_any _ _ _ _ _ Hl1.out (by omega) (Rd.of_own ho1)).mono ?_
    rw [Hok.out, Hp.out]
    rintro e w2 ⟨A2, c2, rfl, _, hb2⟩
    have q2 := hb1.trans (hb2.mono hb1.size)
    go_wp2_with fail
    refine (specPartsPlain_any _ _ _ _ _ Hl1.out (by omega) (Rd.of_own (own_below ho1 hb2 (Nat.le_refl _)))).mono ?_
    rw [Hok.out, Hp.out]
    rintro e w3 ⟨A3, c3, rfl, _, hb3⟩
    have q3 := q2.trans (hb3.mono q2.size)
    go_wp2_with fail
    refine (sameParts_any _ _ [] [] _ _ _ _ _ rfl rfl (Nat.zero_le _) (Nat.zero_le _) (Rd.nil _ _) (Rd.nil _ _)).mono ?_
    rintro e w4 ⟨rfl, hb4⟩
    have q4 := q3.trans (hb4.mono q3.size)
    go_wp2_with fail
    refine (sameParts_any _ _ [] [] _ _ _ _ _ rfl rfl (Nat.zero_le _) (Nat.zero_le _) (Rd.nil _ _) (Rd.nil _ _)).mono ?_
    rintro e w5 ⟨rfl, hb5⟩
    go_wp2
    go_ret
    exact ⟨rfl, q4.trans (hb5.mono q4.size)⟩
  obtain ⟨Q, hQ, v1, v2, g1, g2, g3, g4, g5, g6, g7, g8, g9, g10⟩ := plain_law hok
  obtain ⟨q, hq⟩ : ∃ q, Q.length = q := ⟨_, rfl⟩
  obtain ⟨S, hS⟩ : ∃ q, sumB ps = q := ⟨_, rfl⟩
  obtain ⟨M, hM⟩ : ∃ q, miles ps = q := ⟨_, rfl⟩
  have hMl : M.length = 6 := by rw [← hM, miles_len]
  rw [hS] at g6 g7 g8 g9
  obtain ⟨p, hp⟩ : ∃ p, n' % S.toNat = p := ⟨_, rfl⟩
  have hpS : (p : Int) < S := by rw [← hp]; have := Nat.mod_lt n' (show S.toNat > 0 by omega); omega
  have hrem : (n' : Int).tmod S = (p : Int) := by
    rw [← hp]
    have := Int.ofNat_tmod n' S.toNat
    rw [show ((S.toNat : Nat) : Int) = S by omega] at this
    exact this.symm
  obtain ⟨ow, how⟩ : ∃ ow, partsOwner ps p = (ow, true) := ⟨_, g9 p (by omega) hpS⟩
  have HQ := hideIt hQ
  have Hok := hideIt hok
  have Hq := hideIt hq
  have HM := hideIt (show partsMiles ps = M by rw [partsMiles_t v1, hM])
  have HM2 := hideIt (show partsMiles Q = M by rw [partsMiles_t v2, g3, hM])
  have HMl := hideIt hMl
  have Hv1 := hideIt v1
  have Hv2 := hideIt v2
  have Hok2 := hideIt g1
  have HQ2 := hideIt g2
  have Hap : Hid (Apart Q) := hideIt g4
  have Hlen := hideIt g6
  have How := hideIt how
  have How2 := hideIt (show partsOwner Q p = (ow, true) by rw [g5, how])
  rw [hq] at g10
  have hS0 : (S == 0) = false := by simp; omega
  have hSn : ¬ S = 0 := by omega
  clear hok hQ v1 v2 g1 g2 g3 g4 g5 g6 g9 hq hS hM hMl hp how
  go_wp2_with fail
  refine (implPartsPlain_any _ _ _ _ _ Hl1.out (by omega) (Rd.of_own ho1)).mono ?_
  rw [Hok.out, HQ.out, Hq.out]
  rintro e w2 ⟨A2, c2, rfl, hQ2, hb2⟩
  have q2 := hb1.trans (hb2.mono hb1.size)
  have ho2 := own_below ho1 hb2 (Nat.le_refl _)
  clear hb1 hb2 ho1
  go_wp2_with fail
  refine (specPartsPlain_any _ _ _ _ _ Hl1.out (by omega) (Rd.of_own ho2)).mono ?_
  rw [Hok.out, HQ.out, Hq.out]
  rintro e w3 ⟨A3, d3, rfl, hx3, hb3⟩
  have q3 := q2.trans (hb3.mono q2.size)
  have ho3 := own_below ho2 hb3 (Nat.le_refl _)
  have hQ3 := own_below hQ2 hb3 (Nat.le_refl _)
  clear q2 hb3 ho2 hQ2
  go_wp2_with fail
  refine (sameParts_any _ _ _ _ _ _ _ _ _ Hq.out Hq.out (by omega) (by omega) (Rd.of_own hQ3) (Rd.of_own hx3)).mono ?_
  rw [decide_eq_true rfl]
  rintro e w4 ⟨rfl, hb4⟩
  have q4 := q3.trans (hb4.mono q3.size)
  have ho4 := own_below ho3 hb4 (Nat.le_refl _)
  have hQ4 := own_below hQ3 hb4 (Nat.le_refl _)
  clear q3 hb4 ho3 hQ3 hx3
  go_wp2_with fail
  refine (implPartsPlain_any _ _ _ _ _ Hq.out (by omega) (Rd.of_own hQ4)).mono ?_
  rw [Hok2.out, HQ2.out, Hq.out]
  rintro e w5 ⟨A5, d5, rfl, hX5, hb5⟩
  have q5 := q4.trans (hb5.mono q4.size)
  have ho5 := own_below ho4 hb5 (Nat.le_refl _)
  have hQ5 := own_below hQ4 hb5 (Nat.le_refl _)
  clear q4 hb5 ho4 hQ4
  go_wp2_with fail
  refine (implPartsMiles_any _ _ _ _ _ Hl1.out (by omega) (Rd.of_own ho5)).mono ?_
  rw [Hv1.out, HM.out, HMl.out]
  rintro e w6 ⟨A6, d6, rfl, hm6, hb6⟩
  have q6 := q5.trans (hb6.mono q5.size)
  have ho6 := own_below ho5 hb6 (Nat.le_refl _)
  have hQ6 := own_below hQ5 hb6 (Nat.le_refl _)
  have hX6 := own_below hX5 hb6 (Nat.le_refl _)
  clear q5 hb6 ho5 hQ5 hX5
  go_wp2_with fail
  refine (implPartsMiles_any _ _ _ _ _ Hq.out (by omega) (Rd.of_own hQ6)).mono ?_
  rw [Hv2.out, HM2.out, HMl.out]
  rintro e w7 ⟨A7, d7, rfl, hn7, hb7⟩
  have q7 := q6.trans (hb7.mono q6.size)
  have ho7 := own_below ho6 hb7 (Nat.le_refl _)
  have hQ7 := own_below hQ6 hb7 (Nat.le_refl _)
  have hX7 := own_below hX6 hb7 (Nat.le_refl _)
  have hm7 := own_below hm6 hb7 (Nat.le_refl _)
  clear q6 hb7 ho6 hQ6 hX6 hm6
  have rQ := Rd.of_own hQ7
  have rX := Rd.of_own hX7
  have rP := Rd.of_own ho7
  have rM := Rd.of_own hm7
  have rN := Rd.of_own hn7
  clear hQ7 hX7 ho7 hm7 hn7
  go_wp2
  go_loopw [16] (fun i wr => ∃ v : Nat, 1 ≤ v ∧ (v ≤ q ∨ v = 1) ∧ i = .int .i64 v ∧ Below w7.heap.size w7 wr) (fun i _ => q + 2 - (intOf i).toNat)
  case atStart => exact ⟨1, by omega, by omega, rfl, Below.refl _ _⟩
  case round =>
    obtain ⟨v, u1, hv, rfl, bd⟩ := hrel
    by_cases hlt : v < q
    · obtain ⟨nb, no, rfl, hnl, hnc⟩ := rQ.at2 (k := v) (by rw [Hq.out]; exact hlt)
      have y1 := (bd.cell (p := ⟨nb, no + (v - 1) * 2, none⟩) hnl).trans (hnc (v - 1) (by rw [Hq.out]; omega)).1
      have y2 := (bd.cell (p := ⟨nb, no + v * 2, none⟩) hnl).trans (hnc v (by rw [Hq.out]; exact hlt)).1
      have hne := Hap.out (v - 1) (by rw [Hq.out]; omega)
      rw [show v - 1 + 1 = v by omega] at hne
      obtain ⟨r, hr⟩ : ∃ r, a2 Q v = r := ⟨_, rfl⟩
      obtain ⟨t, ht⟩ : ∃ r, a2 Q (v - 1) = r := ⟨_, rfl⟩
      rw [hr] at y2 hne
      rw [ht] at y1 hne
      have hrt : (r == t) = false := by simpa using hne
      have hvq : (v : Int) < (q : Int) := by omega
      have hwv : IntKind.i64.wrap ((v : Int) - 1) = (v : Int) - 1 := IntWalk.i64_in _ (by omega)
      have hv0 : (0 : Int) ≤ (v : Int) - 1 := by omega
      have hv9 : (v : Int) - 1 < (q : Int) := by omega
      have hvt : ((v : Int) - 1).toNat = v - 1 := by omega
      have hva : (1 : Int) ≤ (v : Int) := by omega
      have hvb : (v : Int) < (q : Int) + 1 := by omega
      clear hr ht hne hnc
      go_wp2_with fail
      go_quiet (fail)
      go_wp2
      go_roundw
      case rel => exact ⟨v + 1, by omega, by omega, by go_num, below_draws bd _⟩
      case measure => simp [intOf]; omega
    · have q8 := q7.trans (bd.mono q7.size)
      have rQ8 := rQ.below bd (Nat.le_refl _)
      have rX8 := rX.below bd (Nat.le_refl _)
      have rP8 := rP.below bd (Nat.le_refl _)
      have rM8 := rM.below bd (Nat.le_refl _)
      have rN8 := rN.below bd (Nat.le_refl _)
      clear rQ rX rP rM rN q7 bd
      go_wp2_with fail
      refine (implPartsLength_any _ _ _ _ _ Hl1.out (by omega) rP8).mono ?_
      rw [Hlen.out]
      rintro e w9 ⟨rfl, hb9⟩
      have q9 := q8.trans (hb9.mono q8.size)
      go_wp2_with fail
      refine (implPartsOwner_any _ _ _ _ p _ Hl1.out (by omega) (rP8.below hb9 (Nat.le_refl _))).mono ?_
      rw [How.out]
      rintro e w10 ⟨rfl, hb10⟩
      have q10 := q9.trans (hb10.mono q9.size)
      have s10 := hb9.trans (hb10.mono hb9.size)
      clear q9 hb9 hb10
      go_wp2_with fail
      refine (implPartsOwner_any _ _ _ _ p _ Hq.out (by omega) (rQ8.below s10 (Nat.le_refl _))).mono ?_
      rw [How2.out]
      rintro e w11 ⟨rfl, hb11⟩
      have q11 := q10.trans (hb11.mono q10.size)
      have s11 := s10.trans (hb11.mono s10.size)
      clear q10 hb11 s10
      go_wp2_with fail
      refine (sameParts_any _ _ _ _ _ _ _ _ _ Hq.out Hq.out (by omega) (by omega) (rX8.below s11 (Nat.le_refl _)) (rQ8.below s11 (Nat.le_refl _))).mono ?_
      rw [decide_eq_true rfl]
      rintro e w12 ⟨rfl, hb12⟩
      have q12 := q11.trans (hb12.mono q11.size)
      have s12 := s11.trans (hb12.mono s11.size)
      clear q11 hb12 s11
      go_wp2_with fail
      refine (sameInts_any _ _ _ _ _ _ _ _ _ HMl.out HMl.out (by omega) (by omega) (rM8.below s12 (Nat.le_refl _)) (rN8.below s12 (Nat.le_refl _))).mono ?_
      rw [decide_eq_true rfl]
      rintro e w13 ⟨rfl, hb13⟩
      have q13 := q12.trans (hb13.mono q12.size)
      go_wp2
      go_ret
      exact ⟨by simp, q13⟩
end Go.Proofs.Ytfnpkbfgemcbaaa.fnPartsPlain

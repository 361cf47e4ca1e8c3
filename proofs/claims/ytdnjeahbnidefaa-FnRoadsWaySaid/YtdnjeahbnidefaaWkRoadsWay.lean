/- The walk of FnRoadsWay. -/
import Derived.Test.YtdnjeahbnidefaaDrRo2
import Derived.Test.YtdnjeahbnidefaaDrWa
import Derived.Test.YtdnjeahbnidefaaRo4
import Derived.Test.YtdnjeahbnidefaaRo7
import Derived.Test.YtdnjeahbnidefaaRoWy
import Derived.Test.YtdnjeahbnidefaaRoWy2
import Derived.Test.YtdnjeahbnidefaaSame
import Derived.Test.YtdnjeahbnidefaaRwLaw
namespace Go.Proofs.Ytdnjeahbnidefaa.fnRoadsWay
open Go.RowKit

set_option maxRecDepth 100000 in
set_option maxHeartbeats 4000000 in
theorem walk (A : Option Addr) (xs : List Int) (n c : Nat) (w : World) (hl : xs.length = n) (hm : n ≤ maxLen) (hc : n ≤ c) (hx : Bytes xs) (hr : Rd w A (flU xs)) :
    Calls Try.prog 7 #[.slice A n c] w (Ret w (.bool true)) := by
  unfold maxLen at hm
  by_cases hn : n ≤ 1048576
  rotate_left
  · go_enter Try.func7, Try.ntmps7
    go_wp2_with fail
    go_ret
    exact ⟨rfl, Below.refl _ _⟩
  go_enter Try.func7, Try.ntmps7
  go_wp2_with fail
  refine (DrawRoadsWay_any _ xs _ _ _ hl hn hc hx hr).mono ?_
  clear hl hr hx
  rintro e w1 ⟨k, rs, b, m, d, x, y, rfl, hk2, hk6, hl1, hm1, hin, ⟨x0, x1⟩, ⟨y0, y1⟩, ho1, hb1⟩
  have Hl1 := hideIt hl1
  clear hl1 hin
  have okx : IntOk x := by unfold IntOk; omega
  have oky : IntOk y := by unfold IntOk; omega
  have hr1 := Rd.of_own ho1
  clear ho1
  by_cases hneg : roadsFar k rs x y < 0
  · have Hm := hideIt (roadsWay_f hneg)
    have Hd := hideIt (decide_eq_false (show ¬ 0 ≤ roadsFar k rs x y by omega))
    clear hneg
    go_wp2_with fail
    refine (implRoadsWay_any _ _ _ _ _ _ _ _ Hl1.out (by omega) hr1 okx oky).mono ?_
    rw [Hm.out, Hd.out]
    rintro e w2 ⟨A2, c2, rfl, _, hb2⟩
    have b2 := hb1.trans (hb2.mono hb1.size)
    go_wp2_with fail
    refine (specRoadsWay_any _ _ _ _ _ _ _ _ Hl1.out (by omega) (hr1.below hb2 (Nat.le_refl _)) okx oky).mono ?_
    rw [Hm.out, Hd.out]
    rintro e w3 ⟨A3, c3, rfl, _, hb3⟩
    have q3 := b2.trans (hb3.mono b2.size)
    go_wp2_with fail
    refine (sameInts_any _ _ [] [] _ _ _ _ _ rfl rfl (Nat.zero_le _) (Nat.zero_le _) (Rd.nil _ _) (Rd.nil _ _)).mono ?_
    rintro e w4 ⟨rfl, hb4⟩
    have b4 := q3.trans (hb4.mono q3.size)
    go_wp2_with fail
    refine (sameInts_any _ _ [] [] _ _ _ _ _ rfl rfl (Nat.zero_le _) (Nat.zero_le _) (Rd.nil _ _) (Rd.nil _ _)).mono ?_
    rintro e w5 ⟨rfl, hb5⟩
    go_wp2
    go_ret
    exact ⟨rfl, b4.trans (hb5.mono b4.size)⟩
  obtain ⟨mm, s, t, hmm, rfl, rfl, hs, ht, hrv, hvv, hf⟩ := roadsFar_at (show 0 ≤ roadsFar k rs x y by omega)
  obtain rfl : k = mm := by omega
  have h0 : 0 ≤ dist k rs t s := by rw [hrv.dist_comm ht hs]; omega
  obtain ⟨W, hW, l1, l8, e0, eL, hIn, hNe, hLen, hOne, hMore⟩ := hrv.way_law ht hs h0
  obtain ⟨q, hq⟩ : ∃ q, W.length = q := ⟨_, rfl⟩
  rw [hq] at l1 l8 eL hOne hMore hIn hNe
  have HW := hideIt hW
  have Hq := hideIt hq
  have Hd := hideIt (decide_eq_true (show 0 ≤ roadsFar k rs s t by omega))
  obtain ⟨F, hF⟩ : ∃ u, roadsFar k rs s t = u := ⟨_, rfl⟩
  rw [hF] at hLen
  have HF := hideIt hF
  have HLen := hideIt hLen
  have HIn : Hid (∀ i, i < q → 0 ≤ a1 W i ∧ a1 W i < k) := hideIt hIn
  have HNe : Hid (∀ i j, i < j → j < q → a1 W i ≠ a1 W j) := hideIt hNe
  have HOne : Hid (q = 1 → s = t) := hideIt hOne
  have HMore : Hid (2 ≤ q → ∃ c : Nat, a1 W 1 = c ∧ c < k ∧ roadsWay k rs c t = W.drop 1 ∧ 0 ≤ roadsFar k rs c t) := hideIt hMore
  have HE0 := hideIt e0
  have HEL := hideIt eL
  have Hok : Hid (∀ i, i < W.length → IntOk (a1 W i)) := hideIt (fun i hi => by
    have := HIn.out i (by rw [← Hq.out]; exact hi)
    unfold IntOk
    omega)
  clear hW hq hF hLen hIn hNe hOne hMore e0 eL hneg hf h0 hrv hvv
  go_wp2_with fail
  refine (implRoadsWay_any _ _ _ _ _ _ _ _ Hl1.out (by omega) hr1 okx oky).mono ?_
  rw [HW.out, Hd.out, Hq.out]
  rintro e w2 ⟨A2, c2, rfl, hw2, hb2⟩
  have b2 := hb1.trans (hb2.mono hb1.size)
  have hr2 := hr1.below hb2 (Nat.le_refl _)
  clear hb1 hb2 hr1
  go_wp2_with fail
  refine (specRoadsWay_any _ _ _ _ _ _ _ _ Hl1.out (by omega) hr2 okx oky).mono ?_
  rw [HW.out, Hd.out, Hq.out]
  rintro e w3 ⟨A3, d3, rfl, hw3', hb3⟩
  have q3 := b2.trans (hb3.mono b2.size)
  have hr3 := hr2.below hb3 (Nat.le_refl _)
  have hw3 := own_below hw2 hb3 (Nat.le_refl _)
  clear b2 hb3 hr2 hw2
  go_wp2_with fail
  refine (sameInts_any _ _ _ _ _ _ _ _ _ Hq.out Hq.out (by omega) (by omega) (Rd.of_own hw3) (Rd.of_own hw3')).mono ?_
  rw [decide_eq_true rfl]
  rintro e w4 ⟨rfl, hb4⟩
  have b4 := q3.trans (hb4.mono q3.size)
  have hr4 := hr3.below hb4 (Nat.le_refl _)
  have hw4 := own_below hw3 hb4 (Nat.le_refl _)
  have hcap := own_cap hw4
  have hwd := Rd.of_own hw4
  clear q3 hb4 hr3 hw3 hw3' hw4
  obtain ⟨nb, no, rfl, hnl, hnc⟩ := hwd.at1 (k := 0) (by rw [Hq.out]; omega)
  have Hnc : Hid (∀ w', Below w4.heap.size w4 w' → ∀ i, i < q → w'.cell? ⟨nb, no + i, none⟩ = some (.int .i64 (a1 W i))) := hideIt (fun w' hb i hi => (hb.cell (p := ⟨nb, no + i, none⟩) hnl).trans (hnc i (by rw [Hq.out]; exact hi)))
  clear hnc
  go_wp2
  go_loopw [11] (fun i wr => ∃ v : Nat, v ≤ q ∧ i = .int .i64 v ∧ Below w4.heap.size w4 wr) (fun i _ => q - (intOf i).toNat)
  case atStart => exact ⟨0, by omega, rfl, Below.refl _ _⟩
  case round =>
    obtain ⟨v, hv, rfl, bd⟩ := hrel
    obtain ⟨w5, hw5⟩ : ∃ w5, w5 = wr := ⟨_, rfl⟩
    subst hw5
    by_cases hlt : v < q
    · go_wp2
      go_loopw [12] (fun i wr => ∃ u : Nat, u ≤ v ∧ i = .int .i64 u ∧ Below w4.heap.size w4 wr) (fun i _ => v - (intOf i).toNat)
      case atStart => exact ⟨0, by omega, rfl, bd⟩
      case round =>
        obtain ⟨u, hu, rfl, be⟩ := hrel
        by_cases hlu : u < v
        · have hc1 := Hnc.out _ be v hlt
          have hc2 := Hnc.out _ be u (by omega)
          have hne := HNe.out u v hlu hlt
          obtain ⟨p, hp⟩ : ∃ p, a1 W v = p := ⟨_, rfl⟩
          obtain ⟨r, hr⟩ : ∃ p, a1 W u = p := ⟨_, rfl⟩
          rw [hp] at hc1 hne
          rw [hr] at hc2 hne
          have hpr : (p == r) = false := by simp; omega
          have hvq : (v : Int) < (q : Int) := by omega
          have huq : (u : Int) < (q : Int) := by omega
          clear hp hr hne
          go_wp2_with fail
          go_quiet (fail)
          go_wp2
          go_roundw
          case rel => exact ⟨u + 1, by omega, by go_num, below_dN be _⟩
          case measure => simp [intOf]; omega
        · obtain rfl : u = v := by omega
          go_wp2
          go_roundw
          case rel => exact ⟨u + 1, by omega, by go_num, be⟩
          case measure => simp [intOf]; omega
    · obtain rfl : v = q := by omega
      have b5 := b4.trans (bd.mono b4.size)
      go_wp2_with fail
      refine (implWayLength_any _ _ _ _ _ _ _ _ _ _ Hl1.out (by omega) (hr4.below bd (Nat.le_refl _)) Hq.out (by omega) (hwd.below bd (Nat.le_refl _)) hcap Hok.out).mono ?_
      rw [HLen.out]
      rintro e w6 ⟨rfl, hb6⟩
      have b6 := bd.trans (hb6.mono bd.size)
      clear bd hb6 b5
      go_wp2_with fail
      refine (implRoadsFar_any _ _ _ _ _ _ _ _ Hl1.out (by omega) (hr4.below b6 (Nat.le_refl _)) okx oky).mono ?_
      rw [HF.out]
      rintro e w7 ⟨rfl, hb7⟩
      have b7 := b6.trans (hb7.mono b6.size)
      clear b6 hb7
      have hc0 := Hnc.out _ b7 0 (by omega)
      have hcL := Hnc.out _ b7 (v - 1) (by omega)
      rw [HE0.out, Nat.add_zero] at hc0
      rw [HEL.out] at hcL
      have hwv : IntKind.i64.wrap ((v : Int) - 1) = (v : Int) - 1 := IntWalk.i64_in _ (by omega)
      have g1 : ((v : Int) - 1).toNat = v - 1 := by omega
      have g2 : (0 : Int) ≤ (v : Int) - 1 := by omega
      have g3 : (v : Int) - 1 < (v : Int) := by omega
      have g4 : (0 : Int) < (v : Int) := by omega
      by_cases hv1 : v = 1
      · have hst := HOne.out hv1
        subst hv1
        subst hst
        go_wp2
        go_ret
        exact ⟨by simp, b4.trans (b7.mono b4.size)⟩
      have hv2 : 2 ≤ v := by omega
      obtain ⟨cc, c1, c2', c3', c4⟩ := HMore.out hv2
      have hcc := Hnc.out _ b7 1 (by omega)
      rw [c1] at hcc
      have okc : IntOk (cc : Int) := by unfold IntOk; omega
      have HW2 := hideIt c3'
      have Hd2 := hideIt (decide_eq_true c4)
      have Hl2 := hideIt (show (W.drop 1).length = v - 1 by rw [List.length_drop, Hq.out])
      have hv1b : ((v : Int) == 1) = false := by simp; omega
      have g5 : (1 : Int) < (v : Int) := by omega
      have g6 : (1 : Int) ≤ (v : Int) := by omega
      have g7 : ¬ c2 = 1 := by omega
      have g8 : ¬ c2 = 0 := by omega
      have g9 : v ≤ c2 := hcap
      clear c1 c3' c4
      go_wp2_with fail
      refine (implRoadsWay_any _ _ _ _ _ _ _ _ Hl1.out (by omega) (hr4.below b7 (Nat.le_refl _)) okc oky).mono ?_
      rw [HW2.out, Hd2.out, Hl2.out]
      rintro e w8 ⟨A8, c8, rfl, hw8, hb8⟩
      have b8 := b7.trans (hb8.mono b7.size)
      have hdr := (hwd.below b8 (Nat.le_refl _)).drop1 1 (by rw [Hq.out]; omega)
      clear hc0 hcL hcc
      go_wp2_with fail
      refine (sameInts_any _ _ _ _ _ _ _ _ _ Hl2.out Hl2.out (by omega) (by omega) (Rd.of_own hw8) hdr).mono ?_
      rw [decide_eq_true rfl]
      rintro e w9 ⟨rfl, hb9⟩
      have b9 := b8.trans (hb9.mono b8.size)
      go_wp2
      go_ret
      exact ⟨rfl, b4.trans (b9.mono b4.size)⟩
end Go.Proofs.Ytdnjeahbnidefaa.fnRoadsWay

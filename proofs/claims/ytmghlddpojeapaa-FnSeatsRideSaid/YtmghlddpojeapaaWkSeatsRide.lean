/- The walk of FnSeatsRide. -/
import Derived.Test.YtmghlddpojeapaaSame
import Derived.Test.YtmghlddpojeapaaDrSt
import Derived.Test.YtmghlddpojeapaaStLaw
import Derived.Test.YtmghlddpojeapaaSt6
namespace Go.Proofs.Ytmghlddpojeapaa.fnSeatsRide
open Go.RowKit

theorem ride_at {ls : List (Int × Int × Bool)} {n k : Nat} (h : k < n) : a1 (upto (rideAt ls) n) k = rideI ls k := by simp [a1, upto, h, rideAt, rideI]

set_option maxRecDepth 100000 in
set_option maxHeartbeats 4000000 in
theorem walk (A : Option Addr) (xs : List Int) (n c : Nat) (w : World) (hl : xs.length = n) (hm : n ≤ maxLen) (hc : n ≤ c) (hx : Bytes xs) (hr : Rd w A (flU xs)) :
    Calls Try.prog 13 #[.slice A n c] w (Ret w (.bool true)) := by
  unfold maxLen at hm
  by_cases hn : n ≤ 1048576
  rotate_left
  · go_enter Try.func13, Try.ntmps13
    go_wp2_with fail
    go_ret
    exact ⟨rfl, Below.refl _ _⟩
  go_enter Try.func13, Try.ntmps13
  go_wp2_with fail
  refine (DrawSeatsRide_any _ xs _ _ _ hl hn hc hx hr).mono ?_
  rintro e w1 ⟨nn, ls, b1, m, c1, rfl, n1, n6, hl1, m16, ho1, hb1⟩
  have Hl1 := hideIt hl1
  clear hl1
  cases hv : bValid nn ls
  · have Hv := hideIt hv
    clear hv
    go_wp2_with fail
    refine (implSeatsRide_any _ _ _ _ _ _ Hl1.out (by omega) (Rd.of_own ho1)).mono ?_
    rw [Hv.out, seatsRide_f Hv.out]
    rintro e w2 ⟨A2, c2, rfl, ho2, hb2⟩
    have b2 := hb1.trans (hb2.mono hb1.size)
    go_wp2_with fail
    refine (specSeatsRide_any _ _ _ _ _ _ Hl1.out (by omega) ((Rd.of_own ho1).below hb2 (Nat.le_refl _))).mono ?_
    rw [Hv.out, seatsRide_f Hv.out]
    rintro e w3 ⟨A3, c3, rfl, ho3, hb3⟩
    have b3 := b2.trans (hb3.mono b2.size)
    go_wp2_with fail
    refine (sameInts_any _ _ [] [] _ _ _ _ _ rfl rfl (Nat.zero_le _) (Nat.zero_le _) (Rd.nil _ _) (Rd.nil _ _)).mono ?_
    rintro e w4 ⟨rfl, hb4⟩
    have b4 := b3.trans (hb4.mono b3.size)
    go_wp2_with fail
    refine (sameInts_any _ _ [] [] _ _ _ _ _ rfl rfl (Nat.zero_le _) (Nat.zero_le _) (Rd.nil _ _) (Rd.nil _ _)).mono ?_
    rintro e w5 ⟨rfl, hb5⟩
    go_wp2
    go_ret
    exact ⟨rfl, b4.trans (hb5.mono b4.size)⟩
  · obtain ⟨q1, q2, q3, q4, q5⟩ := bValid_parts hv
    have Hv := hideIt hv
    have Hall := hideIt q4
    have Hfive := hideIt q5
    have Hmem := hideIt (fun b hb => (allB_mem q4 b hb).2.1)
    clear hv q4 q5
    have hole : (upto (rideAt ls) nn).length ≤ 1048576 := by rw [upto_len]; omega
    have Hole := hideIt (upto_len (rideAt ls) nn)
    go_wp2_with fail
    refine (implSeatsRide_any _ _ _ _ _ _ Hl1.out (by omega) (Rd.of_own ho1)).mono ?_
    rw [Hv.out, seatsRide_t Hv.out, upto_len]
    rintro e w2 ⟨A2, c2, rfl, ho2, hb2⟩
    have b2 := hb1.trans (hb2.mono hb1.size)
    have ho12 := own_below ho1 hb2 (Nat.le_refl _)
    go_wp2_with fail
    refine (specSeatsRide_any _ _ _ _ _ _ Hl1.out (by omega) (Rd.of_own ho12)).mono ?_
    rw [Hv.out, seatsRide_t Hv.out, upto_len]
    rintro e w3 ⟨A3, c3, rfl, ho3, hb3⟩
    have b3 := b2.trans (hb3.mono b2.size)
    have ho13 := own_below ho12 hb3 (Nat.le_refl _)
    have ho23 := own_below ho2 hb3 (Nat.le_refl _)
    go_wp2_with fail
    refine (sameInts_any _ _ _ _ _ _ _ _ _ Hole.out Hole.out (by omega) (by omega) (Rd.of_own ho23) (Rd.of_own ho3)).mono ?_
    rw [decide_eq_true rfl]
    rintro e w4 ⟨rfl, hb4⟩
    have b4 := b3.trans (hb4.mono b3.size)
    have ho14 := own_below ho13 hb4 (Nat.le_refl _)
    have ho24 := own_below ho23 hb4 (Nat.le_refl _)
    have hs2 := Rd.of_own ho24
    have H0 := hideIt (rideI_before Hall.out)
    clear ho1 ho12 ho13 ho2 ho23 ho24 ho3 hb1 hb2 hb3 hb4 b2 b3 hole
    go_wp2
    go_loopw [9, 10] (fun x i wr => ∃ (k : Nat) (z : Int), k ≤ nn ∧ i = .int .i64 k ∧ x = .int .i64 z ∧ z = rideI ls ((k : Int) - 1) ∧ wr = w4) (fun _ i _ => nn - (intOf i).toNat)
    case atStart => exact ⟨0, 0, by omega, rfl, rfl, by rw [show ((0 : Nat) : Int) - 1 = -1 from rfl, H0.out], rfl⟩
    case round =>
      obtain ⟨k, z, hk, rfl, rfl, hz, rfl⟩ := hrel
      have Hz := hideIt hz
      have hzi := rideI_in ls ((k : Int) - 1)
      rw [← hz, Hl1.out] at hzi
      clear hz
      by_cases hlt : k < nn
      · have hev := rideI_ev ls k Hmem.out
        rw [← Hz.out] at hev
        have Hev := hideIt hev
        clear hev
        go_wp2
        go_loopw [9, 11] (fun x i wi => ∃ (j : Nat) (y : Int), j ≤ m ∧ i = .int .i64 j ∧ x = .int .i64 y ∧ y + evSum (ls.drop j) k = rideI ls k ∧ -(j : Int) ≤ y ∧ y ≤ 32 + j ∧ wi = wr) (fun _ i _ => m - (intOf i).toNat)
        case atStart => exact ⟨0, z, by omega, rfl, rfl, by rw [Hev.out]; rfl, by omega, by omega, rfl⟩
        case round =>
          obtain ⟨j, y, hj, rfl, rfl, hrec, y0, y1, rfl⟩ := hrel
          have Hrec := hideIt hrec
          clear hrec
          by_cases hjm : j < m
          · have hlp : j < ls.length := by rw [Hl1.out]; exact hjm
            obtain ⟨hxx, hyy, _⟩ := rowB_a ho14 hlp
            have Hst := hideIt (evSum_step ls k j hlp)
            clear hlp
            obtain ⟨f, hf⟩ : ∃ f, aB ls j = f := ⟨_, rfl⟩
            obtain ⟨t, ht⟩ : ∃ f, bB ls j = f := ⟨_, rfl⟩
            rw [hf] at hxx Hst
            rw [ht] at hyy Hst
            clear hf ht
            unfold evB at Hst
            simp only at Hst
            by_cases c1 : f = k
            · subst c1
              by_cases c2 : t = k
              · subst c2
                go_wp2
                go_roundw
                case rel => exact ⟨j + 1, y, by omega, by go_num, by go_num, by rw [← Hrec.out, Hst.out]; simp, by omega, by omega, trivial⟩
                case measure => simp [intOf]; omega
              · have d2 : (t == (k : Int)) = false := by simpa using c2
                have Hst2 := hideIt (show evSum (ls.drop j) k = 1 + evSum (ls.drop (j + 1)) k by rw [Hst.out, if_pos rfl, if_neg c2]; omega)
                clear c2 Hst
                go_wp2
                go_roundw
                case rel => exact ⟨j + 1, y + 1, by omega, by go_num, by go_num, by rw [← Hrec.out, Hst2.out]; omega, by omega, by omega, trivial⟩
                case measure => simp [intOf]; omega
            · have d1 : (f == (k : Int)) = false := by simpa using c1
              by_cases c2 : t = k
              · subst c2
                have Hst2 := hideIt (show evSum (ls.drop j) k = -1 + evSum (ls.drop (j + 1)) k by rw [Hst.out, if_neg c1, if_pos rfl]; omega)
                clear c1 Hst
                go_wp2
                go_roundw
                case rel => exact ⟨j + 1, y - 1, by omega, by go_num, by go_num, by rw [← Hrec.out, Hst2.out]; omega, by omega, by omega, trivial⟩
                case measure => simp [intOf]; omega
              · have d2 : (t == (k : Int)) = false := by simpa using c2
                have Hst2 := hideIt (show evSum (ls.drop j) k = evSum (ls.drop (j + 1)) k by rw [Hst.out, if_neg c1, if_neg c2]; omega)
                clear c1 c2 Hst
                go_wp2
                go_roundw
                case rel => exact ⟨j + 1, y, by omega, by go_num, by go_num, by rw [← Hrec.out, Hst2.out], by omega, by omega, trivial⟩
                case measure => simp [intOf]; omega
          · obtain rfl : j = m := by omega
            have hy : y = rideI ls k := by rw [← Hrec.out, List.drop_eq_nil_of_le (by rw [Hl1.out]; omega)]; simp [evSum]
            obtain ⟨s1, s2⟩ := Hfive.out k (by omega)
            have hy10 : y ≤ 10 := by rw [hy]; unfold rideI; omega
            have hku : k < (upto (rideAt ls) nn).length := by rw [upto_len]; exact hlt
            obtain ⟨b, off, hbe, hb, hcc⟩ := hs2.at1 hku
            cases hbe
            have hxx := hcc k hku
            rw [ride_at hlt, ← hy] at hxx
            have Hy := hideIt hy
            have hkn : (k : Int) < (nn : Int) := by omega
            clear hcc hku hy
            go_wp2
            go_roundw
            case rel => exact ⟨k + 1, y, by omega, by go_num, rfl, by rw [Hy.out]; congr 1; omega, trivial⟩
            case measure => simp [intOf]; omega
      · go_wp2
        go_ret
        exact ⟨rfl, b4⟩
end Go.Proofs.Ytmghlddpojeapaa.fnSeatsRide

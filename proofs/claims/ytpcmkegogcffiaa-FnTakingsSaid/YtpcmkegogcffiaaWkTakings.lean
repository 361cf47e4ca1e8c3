/- The walk of FnTakings. -/
import Derived.Test.YtpcmkegogcffiaaDrSt3
import Derived.Test.YtpcmkegogcffiaaStLaw3
namespace Go.Proofs.Ytpcmkegogcffiaa.fnTakings
open Go.RowKit

theorem ride_at {ls : List (Int × Int × Bool)} {n k : Nat} (h : k < n) : a1 (upto (rideAt ls) n) k = rideAt ls k := by simp [a1, upto, h]

set_option maxRecDepth 100000 in
set_option maxHeartbeats 4000000 in
theorem walk (A : Option Addr) (xs : List Int) (n c : Nat) (B : Option Addr) (ys : List Int) (mo c2 : Nat) (w : World) (hl : xs.length = n) (hm : n ≤ maxLen) (hc : n ≤ c) (hx : Bytes xs) (hr : Rd w A (flU xs)) (hl2 : ys.length = mo) (hm2 : mo ≤ maxLen) (hc2 : mo ≤ c2) (hx2 : Bytes ys) (hr2 : Rd w B (flU ys)) :
    Calls Try.prog 4 #[.slice A n c, .slice B mo c2] w (Ret w (.bool true)) := by
  unfold maxLen at hm hm2
  clear hl2 hx2 hr2 hc2
  by_cases hn : n ≤ 1048576
  rotate_left
  · go_enter Try.func4, Try.ntmps4
    go_wp2_with fail
    go_ret
    exact ⟨rfl, Below.refl _ _⟩
  by_cases hmo : mo ≤ 1048576
  rotate_left
  · go_enter Try.func4, Try.ntmps4
    go_wp2_with fail
    go_ret
    exact ⟨rfl, Below.refl _ _⟩
  clear hm hm2
  go_enter Try.func4, Try.ntmps4
  go_wp2_with fail
  refine (DrawSeatsTakings_any _ xs _ _ _ hl hn hc hx hr).mono ?_
  rintro e w1 ⟨nn, ls, b1, m, c1, BM, mi, mq, mc, x, y, rfl, n1, n6, hl1, m16, ho1, hlm, hmq, hs1, x0, x1, y0, y1, hb1⟩
  have Hl1 := hideIt hl1
  have Hlm := hideIt hlm
  obtain ⟨o, ho⟩ : ∃ o, seatsTakings nn ls mi x y = o := ⟨_, rfl⟩
  have Ho := hideIt ho
  clear ho hl1 hlm
  go_wp2_with fail
  refine (implSeatsTakings_any _ _ _ _ _ _ _ _ _ _ _ _ Hl1.out (by omega) (Rd.of_own ho1) Hlm.out (by omega) hs1).mono ?_
  rw [Ho.out]
  rintro e w2 ⟨rfl, hb2⟩
  have b2 := hb1.trans (hb2.mono hb1.size)
  have ho2 := own_below ho1 hb2 (Nat.le_refl _)
  have hs2 := hs1.below hb2 (Nat.le_refl _)
  go_wp2_with fail
  refine (specSeatsTakings_any _ _ _ _ _ _ _ _ _ _ _ _ Hl1.out (by omega) (Rd.of_own ho2) Hlm.out (by omega) hs2).mono ?_
  rw [Ho.out]
  rintro e w3 ⟨rfl, hb3⟩
  have b3 := b2.trans (hb3.mono b2.size)
  have ho3 := own_below ho2 hb3 (Nat.le_refl _)
  have hs3 := hs2.below hb3 (Nat.le_refl _)
  clear ho1 ho2 hb1 hb2 hb3 b2 hs1 hs2
  by_cases hgood : bValid nn ls = true ∧ (mi.length : Int) = nn ∧ fareOk x y = true ∧ mi.all mileOk = true
  rotate_left
  · have ho' := Ho.out
    rw [seatsTakings_no hgood] at ho'
    subst ho'
    clear hgood
    go_wp2
    go_ret
    exact ⟨rfl, b3⟩
  obtain ⟨hv, hml, hf, hmm⟩ := hgood
  have hqn : mq = nn := by have := Hlm.out; omega
  subst hqn
  obtain ⟨q1, q2, q3, q4, q5⟩ := bValid_parts hv
  have hfp : 0 ≤ x ∧ x ≤ 100 ∧ 0 ≤ y ∧ y ≤ 100 := by
    simp only [fareOk, Bool.and_eq_true, decide_eq_true_eq] at hf
    omega
  obtain ⟨f1, f2, f3, f4⟩ := hfp
  have hmile : ∀ j, j < mq → 1 ≤ a1 mi j ∧ a1 mi j ≤ 99 := fun j hj => mile_in hmm (by rw [Hlm.out]; exact hj)
  have Hmile : Hid (∀ j, j < mq → 1 ≤ a1 mi j ∧ a1 mi j ≤ 99) := hmile
  have hoo := seatsTakings_t hv Hlm.out hf hmm
  rw [Ho.out] at hoo
  have hob := dueOf_in q3 f1 f2 f3 f4 mq hmile
  rw [← hoo] at hob
  obtain ⟨o0, o1⟩ := hob
  have Hoo := hideIt hoo
  have Hv := hideIt hv
  have Hf := hideIt hf
  have Hmm := hideIt hmm
  have Hq3 := hideIt q3
  have Hq4 := hideIt q4
  have H11 := hideIt (seatsTakings_t (x := 1) (y := 1) hv Hlm.out (by decide) hmm)
  clear hv hml hf hmm q3 q4 q5 hmile hoo
  go_wp2_with fail
  refine (implSeatsRide_any _ _ _ _ _ _ Hl1.out (by omega) (Rd.of_own ho3)).mono ?_
  rw [Hv.out, seatsRide_t Hv.out, upto_len]
  rintro e w4 ⟨A4, c4, rfl, ho4, hb4⟩
  have b4 := b3.trans (hb4.mono b3.size)
  have ho34 := own_below ho3 hb4 (Nat.le_refl _)
  have hs4 := hs3.below hb4 (Nat.le_refl _)
  clear ho3 hb4 b3 hs3
  obtain ⟨g4, rfl, hg40, hg41⟩ := own_some ho4 (by omega)
  go_wp2
  go_loopw [14, 15] (fun s i wr => ∃ (k : Nat) (z : Int), k ≤ mq ∧ i = .int .i64 k ∧ s = .int .i64 z ∧ z = dueOf ls mi 1 1 k ∧ 0 ≤ z ∧ z ≤ 316800 * k ∧ Below w4.heap.size w4 wr) (fun _ i _ => mq - (intOf i).toNat)
  case atStart => exact ⟨0, 0, by omega, rfl, rfl, rfl, by omega, by omega, Below.refl _ _⟩
  case round =>
    obtain ⟨k, z, hk, rfl, rfl, hz, z0, z1, hbw⟩ := hrel
    have Hz := hideIt hz
    clear hz
    by_cases hlt : k < mq
    · have hlp : k < mi.length := by rw [Hlm.out]; exact hlt
      have hk1 : k < (upto (rideAt ls) mq).length := by rw [upto_len]; exact hlt
      obtain ⟨bm, offm, rfl, hbm, hcm⟩ := (hs4.below hbw (Nat.le_refl _)).at1 hlp
      have hxm := hcm k hlp
      obtain ⟨br, offr, hbr0, hbr, hcr⟩ := ((Rd.of_own ho4).below hbw (Nat.le_refl _)).at1 hk1
      cases hbr0
      have hxr := hcr k hk1
      rw [ride_at hlt, Nat.zero_add] at hxr
      have hst := dueOf_one ls mi k
      have hmk := Hmile.out k hlt
      have hld := (legDue_in (k := k) (mi := mi) (x := 1) (y := 1) Hq3.out hmk.1 hmk.2 (by omega) (by omega) (by omega) (by omega)).2.2
      rw [legDue, Int.one_mul, Int.one_mul] at hld
      rw [show taken ls k true + taken ls k false = rideAt ls k from rfl] at hld
      have t1 := taken_in ls k true
      have t2 := taken_in ls k false
      rw [Hl1.out] at t1 t2
      have hrr : 0 ≤ rideAt ls k ∧ rideAt ls k ≤ 32 := by unfold rideAt; omega
      obtain ⟨v, hv⟩ : ∃ v, a1 mi k = v := ⟨_, rfl⟩
      obtain ⟨r, hr'⟩ : ∃ v, rideAt ls k = v := ⟨_, rfl⟩
      rw [hv] at hxm hst hmk hld
      rw [hr'] at hxr hst hld hrr
      rw [← Hz.out] at hst
      have Hst := hideIt hst
      have hkq : (k : Int) < (mq : Int) := by omega
      obtain ⟨l0, l1⟩ := hld
      obtain ⟨v0, v1⟩ := hmk
      obtain ⟨r0, r1⟩ := hrr
      clear hcm hcr hk1 hv hr' hst hlp t1 t2
      go_wp2
      go_quiet (fail)
      go_wp2
      go_roundw
      case rel => exact ⟨k + 1, _, by omega, by go_num, rfl, Hst.out.symm, by omega, by omega, below_drewN hbw _⟩
      case measure => simp [intOf]; omega
    · obtain rfl : k = mq := by omega
      have hs5 := hs4.below hbw (Nat.le_refl _)
      have ho5 := own_below ho34 hbw (Nat.le_refl _)
      have b5 := b4.trans (hbw.mono b4.size)
      clear hs4 ho34 ho4 b4 hbw
      go_wp2_with fail
      refine (implSeatsTakings_any _ _ _ _ _ _ _ _ _ _ _ _ Hl1.out (by omega) (Rd.of_own ho5) Hlm.out (by omega) hs5).mono ?_
      rw [H11.out, ← Hz.out]
      rintro e w6 ⟨rfl, hb6⟩
      have b6 := b5.trans (hb6.mono b5.size)
      have ho6 := own_below ho5 hb6 (Nat.le_refl _)
      have hs6 := hs5.below hb6 (Nat.le_refl _)
      clear hs5 ho5 b5 hb6
      by_cases hm0 : m = 0
      · subst hm0
        have hln : ls = [] := List.length_eq_zero_iff.mp Hl1.out
        have ho9 : o = 0 := by rw [Hoo.out, hln, dueOf_nil]
        subst ho9
        clear hln
        go_wp2
        go_ret
        exact ⟨rfl, b6⟩
      have hm1 : 1 ≤ m := by omega
      obtain ⟨r, hr'⟩ : ∃ r, mo % m = r := ⟨_, rfl⟩
      have hrd : r < m := by rw [← hr']; exact Nat.mod_lt _ (by omega)
      have hmod : (mo : Int) % (m : Int) = (r : Int) := by rw [← hr']; rfl
      have hmd2 : (1 : Int) ≤ (m : Int) := by omega
      have hmd3 : ((m : Int) == 0) = false := by simp; omega
      have hrl : r < ls.length := by rw [Hl1.out]; exact hrd
      obtain ⟨a0, a1', a2⟩ := Hq4.out r hrl
      obtain ⟨f, hfx⟩ := Int.eq_ofNat_of_zero_le a0
      obtain ⟨t, htx⟩ := Int.eq_ofNat_of_zero_le (show 0 ≤ bB ls r by omega)
      have hft : f < t := by omega
      have htn : t ≤ k := by omega
      have hcan : cancelOk k ls r = true := by simp [cancelOk, Hv.out, inAt, Hl1.out]; omega
      have hcan2 : seatsCancel k ls r = without ls r := by rw [seatsCancel_t hcan, Int.toNat_natCast]
      have hwl := without_len ls r m Hl1.out hrd
      have hwv := bValid_without hrl Hv.out
      have htk := seatsTakings_t hwv Hlm.out Hf.out Hmm.out
      have hdw := dueOf_without (mi := mi) (x := x) (y := y) hrl hfx htx k
      rw [← Hoo.out, coverDue_at _ _ _ _ (by omega), show min k t - f = t - f by omega] at hdw
      have hdn := dueOf_in (ls := without ls r) (mi := mi) (by rw [hwl]; omega) f1 f2 f3 f4 k Hmile.out
      obtain ⟨D, hD⟩ : ∃ D, dueOf (without ls r) mi x y k = D := ⟨_, rfl⟩
      rw [hD] at htk hdw hdn
      obtain ⟨p, hp⟩ : ∃ p, r + (m - (r + 1)) = p := ⟨_, rfl⟩
      rw [hp] at hwl
      have hpm : p ≤ m := by omega
      have Hdw0 := hideIt hdw
      clear hdw
      have Hcan := hideIt hcan
      have Hcan2 := hideIt hcan2
      have Hwl := hideIt hwl
      have Htk := hideIt htk
      obtain ⟨hcx, hcy, hcz⟩ := rowB_a ho6 hrl
      rw [hfx] at hcx
      rw [htx] at hcy
      have hb1l := (ho6.lt b1 rfl).2
      obtain ⟨dn0, dn1⟩ := hdn
      clear hr' hcan hcan2 hwl hwv htk a0 a1' a2 hD hp
      go_wp2_with fail
      refine (implSeatsCancel_g _ _ _ _ _ _ _ Hl1.out (by omega) (Rd.of_own ho6) (own_cap ho6)).mono ?_
      rw [Hcan.out, Hcan2.out, Hwl.out]
      rintro e w7 ⟨A7, c7, rfl, ho7, hb7⟩
      have b7 := b6.trans (hb7.mono b6.size)
      have ho67 := own_below ho6 hb7 (Nat.le_refl _)
      have hs7 := hs6.below hb7 (Nat.le_refl _)
      have hx7 := (hb7.cell (p := ⟨b1, r * 3, none⟩) hb1l).trans hcx
      have hy7 := (hb7.cell (p := ⟨b1, r * 3 + 1, none⟩) hb1l).trans hcy
      have hz7 := (hb7.cell (p := ⟨b1, r * 3 + 2, none⟩) hb1l).trans hcz
      have hb17 : b1 < w7.heap.size := Nat.lt_of_lt_of_le hb1l hb7.size
      clear ho6 hb7 b6 hs6 hcx hcy hcz
      cases hzz : cB ls r
      · have hdw := Hdw0.out
        rw [hzz] at hz7 hdw
        simp only [reduceIte, Bool.false_eq_true] at hdw
        have Hdw := hideIt hdw
        clear hzz hdw hfx htx Hdw0
        go_wp2
        go_loopw [20, 21] (fun s i wr => ∃ (e : Nat) (z : Int), f ≤ e ∧ e ≤ t ∧ i = .int .i64 e ∧ s = .int .i64 z ∧ z = stretchDue mi y f (e - f) ∧ 0 ≤ z ∧ z ≤ 9900 * ((e - f : Nat) : Int) ∧ Below w7.heap.size w7 wr) (fun _ i _ => t - (intOf i).toNat)
        case atStart => exact ⟨f, 0, by omega, by omega, rfl, rfl, by rw [Nat.sub_self]; rfl, by omega, by omega, Below.refl _ _⟩
        case round =>
          obtain ⟨e, z, he0, he1, rfl, rfl, hz, z0, z1, hbw⟩ := hrel
          have Hz := hideIt hz
          clear hz
          have hyw := (hbw.cell (p := ⟨b1, r * 3 + 1, none⟩) hb17).trans hy7
          by_cases hlt2 : e < t
          · have hlp : e < mi.length := by rw [Hlm.out]; omega
            obtain ⟨bm, offm, rfl, hbm, hcm⟩ := (hs7.below hbw (Nat.le_refl _)).at1 hlp
            have hxm := hcm e hlp
            have hmk := Hmile.out e (by omega)
            have hmu := mulB (show 0 ≤ a1 mi e by omega) hmk.2 f3 f4
            have hst : stretchDue mi y f (e + 1 - f) = z + a1 mi e * y := by rw [show e + 1 - f = (e - f) + 1 by omega, stretchDue, ← Hz.out, show f + (e - f) = e by omega]
            obtain ⟨v, hv⟩ : ∃ v, a1 mi e = v := ⟨_, rfl⟩
            rw [hv] at hxm hst hmk hmu
            have Hst := hideIt hst
            obtain ⟨v0, v1⟩ := hmk
            obtain ⟨l0, l1⟩ := hmu
            have hekk : e < k := by omega
            clear hcm hv hst hlp
            go_wp2
            go_roundw
            case rel => exact ⟨e + 1, _, by omega, by omega, by go_num, rfl, Hst.out.symm, by omega, by omega, hbw⟩
            case measure => simp [intOf]; omega
          · obtain rfl : e = t := by omega
            rw [← Hz.out] at Hdw
            have hs8 := hs7.below hbw (Nat.le_refl _)
            have ho8 := own_below ho7 hbw (Nat.le_refl _)
            have b8 := b7.trans (hbw.mono b7.size)
            have hfin := Hdw.out
            go_wp2_with fail
            refine (implSeatsTakings_any _ _ _ _ _ _ _ _ _ _ _ _ Hwl.out (by omega) (Rd.of_own ho8) Hlm.out (by omega) hs8).mono ?_
            rw [Htk.out]
            rintro e w9 ⟨rfl, hb9⟩
            go_wp2
            go_ret
            exact ⟨rfl, b8.trans (hb9.mono b8.size)⟩
      · have hdw := Hdw0.out
        rw [hzz] at hz7 hdw
        simp only [reduceIte, Bool.false_eq_true] at hdw
        have Hdw := hideIt hdw
        clear hzz hdw hfx htx Hdw0
        go_wp2
        go_loopw [20, 21] (fun s i wr => ∃ (e : Nat) (z : Int), f ≤ e ∧ e ≤ t ∧ i = .int .i64 e ∧ s = .int .i64 z ∧ z = stretchDue mi x f (e - f) ∧ 0 ≤ z ∧ z ≤ 9900 * ((e - f : Nat) : Int) ∧ Below w7.heap.size w7 wr) (fun _ i _ => t - (intOf i).toNat)
        case atStart => exact ⟨f, 0, by omega, by omega, rfl, rfl, by rw [Nat.sub_self]; rfl, by omega, by omega, Below.refl _ _⟩
        case round =>
          obtain ⟨e, z, he0, he1, rfl, rfl, hz, z0, z1, hbw⟩ := hrel
          have Hz := hideIt hz
          clear hz
          have hyw := (hbw.cell (p := ⟨b1, r * 3 + 1, none⟩) hb17).trans hy7
          by_cases hlt2 : e < t
          · have hlp : e < mi.length := by rw [Hlm.out]; omega
            obtain ⟨bm, offm, rfl, hbm, hcm⟩ := (hs7.below hbw (Nat.le_refl _)).at1 hlp
            have hxm := hcm e hlp
            have hmk := Hmile.out e (by omega)
            have hmu := mulB (show 0 ≤ a1 mi e by omega) hmk.2 f1 f2
            have hst : stretchDue mi x f (e + 1 - f) = z + a1 mi e * x := by rw [show e + 1 - f = (e - f) + 1 by omega, stretchDue, ← Hz.out, show f + (e - f) = e by omega]
            obtain ⟨v, hv⟩ : ∃ v, a1 mi e = v := ⟨_, rfl⟩
            rw [hv] at hxm hst hmk hmu
            have Hst := hideIt hst
            obtain ⟨v0, v1⟩ := hmk
            obtain ⟨l0, l1⟩ := hmu
            have hekk : e < k := by omega
            clear hcm hv hst hlp
            go_wp2
            go_roundw
            case rel => exact ⟨e + 1, _, by omega, by omega, by go_num, rfl, Hst.out.symm, by omega, by omega, hbw⟩
            case measure => simp [intOf]; omega
          · obtain rfl : e = t := by omega
            rw [← Hz.out] at Hdw
            have hs8 := hs7.below hbw (Nat.le_refl _)
            have ho8 := own_below ho7 hbw (Nat.le_refl _)
            have b8 := b7.trans (hbw.mono b7.size)
            have hfin := Hdw.out
            go_wp2_with fail
            refine (implSeatsTakings_any _ _ _ _ _ _ _ _ _ _ _ _ Hwl.out (by omega) (Rd.of_own ho8) Hlm.out (by omega) hs8).mono ?_
            rw [Htk.out]
            rintro e w9 ⟨rfl, hb9⟩
            go_wp2
            go_ret
            exact ⟨rfl, b8.trans (hb9.mono b8.size)⟩
end Go.Proofs.Ytpcmkegogcffiaa.fnTakings

/- Walks: SeatsTakings, of the program and of the reference. -/
import Derived.Test.YtpcmkegogcffiaaSt9
import Derived.IntWalk
namespace Go.Proofs.Ytpcmkegogcffiaa
open Go.RowKit

theorem Rd.drewN {w : World} {A : Option Addr} {cs : List Value} (h : Rd w A cs) (n : Nat) : Rd (w.drewN n) A cs := h
theorem l4Taken_v (A : Option Addr) (ls : List (Int × Int × Bool)) (n cap : Nat) (leg : Int) (ins : Bool) (w : World) (hl : ls.length = n) (hn : n ≤ 1048576) (hr : Rd w A (flB ls)) :
    Calls Try.prog 53 #[.slice A n cap, .int .i64 leg, .bool ins] w fun e w' => e = .returned (.int .i64 (taken ls leg ins)) ∧ w' = w :=
  (l4Taken_any A ls n cap leg ins w hl hn hr).mono fun _ _ ⟨a, b⟩ => ⟨a, b.symm⟩

set_option maxRecDepth 100000 in
set_option maxHeartbeats 2000000 in
theorem implSeatsTakings_any (n : Int) (A : Option Addr) (ls : List (Int × Int × Bool)) (m cap : Nat) (B : Option Addr) (mi : List Int) (q capB : Nat) (x y : Int) (w : World) (hl : ls.length = m) (hm : m ≤ 1048576) (hr : Rd w A (flB ls)) (hlb : mi.length = q) (hq : q ≤ 1048576) (hs : Rd w B (fl1 mi)) :
    Calls Try.prog 20 #[.int .i64 n, .slice A m cap, .slice B q capB, .int .i64 x, .int .i64 y] w (Ret w (.int .i64 (seatsTakings n ls mi x y))) := by
  cases hv : bValid n ls
  · rw [seatsTakings_no (by rw [hv]; simp)]
    have Hv := hideIt hv
    clear hv
    go_enter Try.func20, Try.ntmps20
    go_wp2_with fail
    refine (implBookingsValid_any _ _ _ _ _ _ _ hl hm hr Hv.out).mono ?_
    rintro e w1 ⟨rfl, hb1⟩
    go_wp2
    go_ret
    exact ⟨rfl, hb1⟩
  have Hv := hideIt hv
  by_cases hqn : (q : Int) = n
  rotate_left
  · rw [seatsTakings_no (by rw [hlb]; exact fun h => hqn h.2.1)]
    have hqn' : ((q : Int) != n) = true := by simpa using hqn
    clear hv hqn hlb
    go_enter Try.func20, Try.ntmps20
    go_wp2_with fail
    refine (implBookingsValid_any _ _ _ _ _ _ _ hl hm hr Hv.out).mono ?_
    rintro e w1 ⟨rfl, hb1⟩
    go_wp2
    go_ret
    exact ⟨rfl, hb1⟩
  obtain ⟨q1, q2, q3, q4, q5⟩ := bValid_parts hv
  subst hqn
  cases hf : fareOk x y
  · rw [seatsTakings_no (by rw [hf]; simp)]
    have hf' : x < 0 ∨ (0 ≤ x ∧ 100 < x) ∨ (0 ≤ x ∧ x ≤ 100 ∧ y < 0) ∨ (0 ≤ x ∧ x ≤ 100 ∧ 0 ≤ y ∧ 100 < y) := by
      simp only [fareOk, Bool.and_eq_false_iff, decide_eq_false_iff_not] at hf
      omega
    clear hv hf q4 q5
    rcases hf' with g | ⟨g, g2⟩ | ⟨g, g2, g3⟩ | ⟨g, g2, g3, g4⟩
    · go_enter Try.func20, Try.ntmps20
      go_wp2_with fail
      refine (implBookingsValid_any _ _ _ _ _ _ _ hl hm hr Hv.out).mono ?_
      rintro e w1 ⟨rfl, hb1⟩
      go_wp2
      go_ret
      exact ⟨rfl, hb1⟩
    · go_enter Try.func20, Try.ntmps20
      go_wp2_with fail
      refine (implBookingsValid_any _ _ _ _ _ _ _ hl hm hr Hv.out).mono ?_
      rintro e w1 ⟨rfl, hb1⟩
      go_wp2
      go_ret
      exact ⟨rfl, hb1⟩
    · go_enter Try.func20, Try.ntmps20
      go_wp2_with fail
      refine (implBookingsValid_any _ _ _ _ _ _ _ hl hm hr Hv.out).mono ?_
      rintro e w1 ⟨rfl, hb1⟩
      go_wp2
      go_ret
      exact ⟨rfl, hb1⟩
    · go_enter Try.func20, Try.ntmps20
      go_wp2_with fail
      refine (implBookingsValid_any _ _ _ _ _ _ _ hl hm hr Hv.out).mono ?_
      rintro e w1 ⟨rfl, hb1⟩
      go_wp2
      go_ret
      exact ⟨rfl, hb1⟩
  have hfp : 0 ≤ x ∧ x ≤ 100 ∧ 0 ≤ y ∧ y ≤ 100 := by
    simp only [fareOk, Bool.and_eq_true, decide_eq_true_eq] at hf
    omega
  obtain ⟨f1, f2, f3, f4⟩ := hfp
  have hyes : mi.all mileOk = true → seatsTakings q ls mi x y = dueOf ls mi x y q := fun h => by rw [seatsTakings, if_pos ⟨hv, by rw [hlb], hf, h⟩, hlb]
  have hno : mi.all mileOk = false → seatsTakings q ls mi x y = -1 := fun h => seatsTakings_no (by rw [h]; simp)
  have Hyes : Hid (mi.all mileOk = true → seatsTakings q ls mi x y = dueOf ls mi x y q) := hyes
  have Hno : Hid (mi.all mileOk = false → seatsTakings q ls mi x y = -1) := hno
  obtain ⟨R, hR⟩ : ∃ R, seatsTakings q ls mi x y = R := ⟨_, rfl⟩
  rw [hR] at Hyes Hno ⊢
  have q7 : q ≤ 7 := by omega
  have Hl := hideIt hl
  have Hlb := hideIt hlb
  have Hls := hideIt q3
  rw [hl] at q3
  have Hall := hideIt (AllB.mono q4 (show (q : Int) ≤ 8 by omega))
  clear hv hf hyes hno q4 q5 hl hlb hR
  go_enter Try.func20, Try.ntmps20
  go_wp2_with fail
  refine (implBookingsValid_any _ _ _ _ _ _ _ Hl.out hm hr Hv.out).mono ?_
  rintro e w1 ⟨rfl, hb1⟩
  go_wp2
  go_loopw [11, 40] (fun s i wr => ∃ (k : Nat) (z : Int), k ≤ q ∧ i = .int .i64 k ∧ s = .int .i64 z ∧ z = dueOf ls mi x y k ∧ 0 ≤ z ∧ z ≤ 316800 * k ∧ (mi.drop k).all mileOk = mi.all mileOk ∧ Below w.heap.size w wr) (fun _ i _ => q - (intOf i).toNat)
  case atStart => exact ⟨0, 0, by omega, rfl, rfl, rfl, by omega, by omega, rfl, hb1⟩
  case round =>
    clear hb1
    obtain ⟨k, z, hk, rfl, rfl, hz, z0, z1, hrec, hbw⟩ := hrel
    have Hz := hideIt hz
    have Hrec := hideIt hrec
    clear hz hrec
    by_cases hlt : k < q
    · have hlp : k < mi.length := by rw [Hlb.out]; exact hlt
      obtain ⟨b, off, rfl, hb, hc⟩ := hs.at1 hlp
      have hx := (hbw.cell (p := ⟨b, off + k, none⟩) hb).trans (hc k hlp)
      have Hst := hideIt (all_step mileOk mi k 0 hlp)
      have hdd : dueOf ls mi x y (k + 1) = z + a1 mi k * (x * taken ls k true + y * taken ls k false) := by rw [dueOf, ← Hz.out]; rfl
      have Hdd := hideIt hdd
      clear hc hlp hdd
      cases he : mileOk (mi.getD k 0)
      · have hf := mileOk_not he
        have Hr := hideIt (Hno.out (by rw [← Hrec.out, Hst.out, he]; rfl))
        clear he
        obtain ⟨v, hv⟩ : ∃ v, a1 mi k = v := ⟨_, rfl⟩
        rw [hv] at hx hf
        clear hv Hdd
        rcases hf with hf | hf
        · go_wp2
          go_ret
          exact ⟨ret_int Hr.out.symm, hbw⟩
        · go_wp2
          go_ret
          exact ⟨ret_int Hr.out.symm, hbw⟩
      · obtain ⟨v1, v2⟩ := mileOk_at he
        have hd := legDue_in (k := k) Hls.out v1 v2 f1 f2 f3 f4
        obtain ⟨⟨d1, d2⟩, ⟨d3, d4⟩, d5, d6⟩ := hd
        unfold legDue at d5 d6
        have He := hideIt he
        clear he
        obtain ⟨v, hv⟩ : ∃ v, a1 mi k = v := ⟨_, rfl⟩
        rw [hv] at hx v1 v2 d5 d6 Hdd
        obtain ⟨t1, ht1⟩ : ∃ v, taken ls k true = v := ⟨_, rfl⟩
        obtain ⟨t2, ht2⟩ : ∃ v, taken ls k false = v := ⟨_, rfl⟩
        have b1 := taken_in ls k true
        have b2 := taken_in ls k false
        rw [Hl.out] at b1 b2
        rw [ht1] at d1 d2 d5 d6 b1 Hdd
        rw [ht2] at d3 d4 d5 d6 b2 Hdd
        have Ht1 := hideIt ht1
        have Ht2 := hideIt ht2
        clear hv ht1 ht2
        go_wp2_with fail
        refine (takenOn_any _ _ _ _ _ _ _ Hl.out hm (hr.below hbw (Nat.le_refl _)) Hall.out (by omega)).mono ?_
        rw [Ht1.out]
        rintro e w2 ⟨rfl, hb2⟩
        have hbw2 := hbw.trans (hb2.mono hbw.size)
        go_wp2_with fail
        refine (takenOn_any _ _ _ _ _ _ _ Hl.out hm (hr.below hbw2 (Nat.le_refl _)) Hall.out (by omega)).mono ?_
        rw [Ht2.out]
        rintro e w3 ⟨rfl, hb3⟩
        have hbw3 := hbw2.trans (hb3.mono hbw2.size)
        go_wp2
        go_roundw
        case rel => exact ⟨k + 1, _, by omega, by go_num, rfl, by rw [Hdd.out], by omega, by omega, by rw [← Hrec.out, Hst.out, He.out, Bool.true_and], hbw3⟩
        case measure => simp [intOf]; omega
    · obtain rfl : k = q := by omega
      have Hr := hideIt (Hyes.out (by rw [← Hrec.out, List.drop_eq_nil_of_le (by rw [Hlb.out]; omega)]; rfl))
      go_wp2
      go_ret
      exact ⟨ret_int (by rw [Hr.out, Hz.out]), hbw⟩

set_option maxRecDepth 100000 in
set_option maxHeartbeats 2000000 in
theorem specSeatsTakings_any (n : Int) (A : Option Addr) (ls : List (Int × Int × Bool)) (m cap : Nat) (B : Option Addr) (mi : List Int) (q capB : Nat) (x y : Int) (w : World) (hl : ls.length = m) (hm : m ≤ 1048576) (hr : Rd w A (flB ls)) (hlb : mi.length = q) (hq : q ≤ 1048576) (hs : Rd w B (fl1 mi)) :
    Calls Try.prog 21 #[.int .i64 n, .slice A m cap, .slice B q capB, .int .i64 x, .int .i64 y] w (Ret w (.int .i64 (seatsTakings n ls mi x y))) := by
  cases hv : bValid n ls
  · rw [seatsTakings_no (by rw [hv]; simp)]
    have Hv := hideIt hv
    clear hv
    go_enter Try.func21, Try.ntmps21
    go_wp2_with fail
    refine (specBookingsValid_any _ _ _ _ _ _ _ hl hm hr Hv.out).mono ?_
    rintro e w1 ⟨rfl, hb1⟩
    go_wp2
    go_ret
    exact ⟨rfl, hb1⟩
  have Hv := hideIt hv
  by_cases hqn : (q : Int) = n
  rotate_left
  · rw [seatsTakings_no (by rw [hlb]; exact fun h => hqn h.2.1)]
    have hqn' : ((q : Int) != n) = true := by simpa using hqn
    clear hv hqn hlb
    go_enter Try.func21, Try.ntmps21
    go_wp2_with fail
    refine (specBookingsValid_any _ _ _ _ _ _ _ hl hm hr Hv.out).mono ?_
    rintro e w1 ⟨rfl, hb1⟩
    go_wp2
    go_ret
    exact ⟨rfl, hb1⟩
  obtain ⟨q1, q2, q3, q4, q5⟩ := bValid_parts hv
  subst hqn
  cases hf : fareOk x y
  · rw [seatsTakings_no (by rw [hf]; simp)]
    have hf' : x < 0 ∨ (0 ≤ x ∧ 100 < x) ∨ (0 ≤ x ∧ x ≤ 100 ∧ y < 0) ∨ (0 ≤ x ∧ x ≤ 100 ∧ 0 ≤ y ∧ 100 < y) := by
      simp only [fareOk, Bool.and_eq_false_iff, decide_eq_false_iff_not] at hf
      omega
    clear hv hf q4 q5
    rcases hf' with g | ⟨g, g2⟩ | ⟨g, g2, g3⟩ | ⟨g, g2, g3, g4⟩
    · go_enter Try.func21, Try.ntmps21
      go_wp2_with fail
      refine (specBookingsValid_any _ _ _ _ _ _ _ hl hm hr Hv.out).mono ?_
      rintro e w1 ⟨rfl, hb1⟩
      go_wp2_with fail
      refine (l6In_f _ _ _ _ (.inl g)).mono ?_
      rintro e w' ⟨rfl, rfl⟩
      go_wp2
      go_ret
      exact ⟨rfl, hb1⟩
    · go_enter Try.func21, Try.ntmps21
      go_wp2_with fail
      refine (specBookingsValid_any _ _ _ _ _ _ _ hl hm hr Hv.out).mono ?_
      rintro e w1 ⟨rfl, hb1⟩
      go_wp2_with fail
      refine (l6In_f _ _ _ _ (.inr g2)).mono ?_
      rintro e w' ⟨rfl, rfl⟩
      go_wp2
      go_ret
      exact ⟨rfl, hb1⟩
    · go_enter Try.func21, Try.ntmps21
      go_wp2_with fail
      refine (specBookingsValid_any _ _ _ _ _ _ _ hl hm hr Hv.out).mono ?_
      rintro e w1 ⟨rfl, hb1⟩
      go_wp2_with fail
      refine (l6In_t _ _ _ _ g g2).mono ?_
      rintro e w' ⟨rfl, rfl⟩
      go_wp2_with fail
      refine (l6In_f _ _ _ _ (.inl g3)).mono ?_
      rintro e w' ⟨rfl, rfl⟩
      go_wp2
      go_ret
      exact ⟨rfl, hb1⟩
    · go_enter Try.func21, Try.ntmps21
      go_wp2_with fail
      refine (specBookingsValid_any _ _ _ _ _ _ _ hl hm hr Hv.out).mono ?_
      rintro e w1 ⟨rfl, hb1⟩
      go_wp2_with fail
      refine (l6In_t _ _ _ _ g g2).mono ?_
      rintro e w' ⟨rfl, rfl⟩
      go_wp2_with fail
      refine (l6In_f _ _ _ _ (.inr g4)).mono ?_
      rintro e w' ⟨rfl, rfl⟩
      go_wp2
      go_ret
      exact ⟨rfl, hb1⟩
  have hfp : 0 ≤ x ∧ x ≤ 100 ∧ 0 ≤ y ∧ y ≤ 100 := by
    simp only [fareOk, Bool.and_eq_true, decide_eq_true_eq] at hf
    omega
  obtain ⟨f1, f2, f3, f4⟩ := hfp
  have hyes : mi.all mileOk = true → seatsTakings q ls mi x y = dueOf ls mi x y q := fun h => by rw [seatsTakings, if_pos ⟨hv, by rw [hlb], hf, h⟩, hlb]
  have hno : mi.all mileOk = false → seatsTakings q ls mi x y = -1 := fun h => seatsTakings_no (by rw [h]; simp)
  have Hyes : Hid (mi.all mileOk = true → seatsTakings q ls mi x y = dueOf ls mi x y q) := hyes
  have Hno : Hid (mi.all mileOk = false → seatsTakings q ls mi x y = -1) := hno
  obtain ⟨R, hR⟩ : ∃ R, seatsTakings q ls mi x y = R := ⟨_, rfl⟩
  rw [hR] at Hyes Hno ⊢
  have q7 : q ≤ 7 := by omega
  have Hl := hideIt hl
  have Hlb := hideIt hlb
  have Hls := hideIt q3
  rw [hl] at q3
  clear hv hf hyes hno q4 q5 hl hlb hR
  go_enter Try.func21, Try.ntmps21
  go_wp2_with fail
  refine (specBookingsValid_any _ _ _ _ _ _ _ Hl.out hm hr Hv.out).mono ?_
  rintro e w1 ⟨rfl, hb1⟩
  go_wp2_with fail
  refine (l6In_t _ _ _ _ f1 f2).mono ?_
  rintro e w' ⟨rfl, rfl⟩
  go_wp2_with fail
  refine (l6In_t _ _ _ _ f3 f4).mono ?_
  rintro e w' ⟨rfl, rfl⟩
  go_wp2
  go_loopw [11, 12] (fun s i wr => ∃ (k : Nat) (z : Int), k ≤ q ∧ i = .int .i64 k ∧ s = .int .i64 z ∧ z = dueOf ls mi x y k ∧ 0 ≤ z ∧ z ≤ 316800 * k ∧ (mi.drop k).all mileOk = mi.all mileOk ∧ Below w.heap.size w wr) (fun _ i _ => q - (intOf i).toNat)
  case atStart => exact ⟨0, 0, by omega, rfl, rfl, rfl, by omega, by omega, rfl, hb1⟩
  case round =>
    clear hb1
    obtain ⟨k, z, hk, rfl, rfl, hz, z0, z1, hrec, hbw⟩ := hrel
    have Hz := hideIt hz
    have Hrec := hideIt hrec
    clear hz hrec
    by_cases hlt : k < q
    · have hlp : k < mi.length := by rw [Hlb.out]; exact hlt
      obtain ⟨b, off, rfl, hb, hc⟩ := hs.at1 hlp
      have hx := (hbw.cell (p := ⟨b, off + k, none⟩) hb).trans (hc k hlp)
      have Hst := hideIt (all_step mileOk mi k 0 hlp)
      have hdd : dueOf ls mi x y (k + 1) = z + a1 mi k * (x * taken ls k true + y * taken ls k false) := by rw [dueOf, ← Hz.out]; rfl
      have Hdd := hideIt hdd
      clear hc hlp hdd
      cases he : mileOk (mi.getD k 0)
      · have hf := mileOk_not he
        have Hr := hideIt (Hno.out (by rw [← Hrec.out, Hst.out, he]; rfl))
        clear he
        obtain ⟨v, hv⟩ : ∃ v, a1 mi k = v := ⟨_, rfl⟩
        rw [hv] at hx hf
        clear hv Hdd
        go_wp2_with fail
        refine (l6In_f _ _ _ _ hf).mono ?_
        rintro e w' ⟨rfl, rfl⟩
        go_wp2
        go_ret
        exact ⟨ret_int Hr.out.symm, hbw⟩
      · obtain ⟨v1, v2⟩ := mileOk_at he
        have hd := legDue_in (k := k) Hls.out v1 v2 f1 f2 f3 f4
        obtain ⟨⟨d1, d2⟩, ⟨d3, d4⟩, d5, d6⟩ := hd
        unfold legDue at d5 d6
        have He := hideIt he
        clear he
        obtain ⟨v, hv⟩ : ∃ v, a1 mi k = v := ⟨_, rfl⟩
        rw [hv] at hx v1 v2 d5 d6 Hdd
        have b1 := taken_in ls k true
        have b2 := taken_in ls k false
        rw [Hl.out] at b1 b2
        clear hv
        have w1' := IntWalk.i64_in (x * taken ls k true) (by omega)
        have w2' := IntWalk.i64_in (y * taken ls k false) (by omega)
        have w3' := IntWalk.i64_in (x * taken ls k true + y * taken ls k false) (by omega)
        have w4' := IntWalk.i64_in (v * (x * taken ls k true + y * taken ls k false)) (by omega)
        have w5' := IntWalk.i64_in (z + v * (x * taken ls k true + y * taken ls k false)) (by omega)
        have hbw3 := hbw
        go_wp2_with fail
        refine (l6In_t _ _ _ _ v1 v2).mono ?_
        rintro e w' ⟨rfl, rfl⟩
        go_wp2
        go_quiet ((go_at_call 53; exact Calls.quiet_of_same (l4Taken_v _ _ _ _ _ _ _ Hl.out hm ((hr.below hbw (Nat.le_refl _)).drewN _))))
        clear w1' w2' w3' w4' w5'
        go_wp2
        go_roundw
        case rel => exact ⟨k + 1, _, by omega, by go_num, rfl, by rw [Hdd.out], by omega, by omega, by rw [← Hrec.out, Hst.out, He.out, Bool.true_and], below_drewN hbw3 _⟩
        case measure => simp [intOf]; omega
    · obtain rfl : k = q := by omega
      have Hr := hideIt (Hyes.out (by rw [← Hrec.out, List.drop_eq_nil_of_le (by rw [Hlb.out]; omega)]; rfl))
      go_wp2
      go_ret
      exact ⟨ret_int (by rw [Hr.out, Hz.out]), hbw⟩
end Go.Proofs.Ytpcmkegogcffiaa

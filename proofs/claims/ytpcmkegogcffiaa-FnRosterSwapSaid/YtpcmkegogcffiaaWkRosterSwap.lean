/- The walk of FnRosterSwap. -/
import Derived.Test.YtpcmkegogcffiaaSameQ
import Derived.Test.YtpcmkegogcffiaaDrRu3
import Derived.Test.YtpcmkegogcffiaaRu7
namespace Go.Proofs.Ytpcmkegogcffiaa.fnRosterSwap
open Go.RowKit

theorem rdD {w : World} {A : Option Addr} {cs : List Value} (h : Rd w A cs) (n : Nat) : Rd (w.drewN n) A cs := h
theorem fl1_take (xs : List Int) (k : Nat) : ∀ (i : Nat) (u : Value), (fl1 (xs.take k))[i]? = some u → (fl1 xs)[i]? = some u := by
  intro i u h
  have hi : i < (fl1 (xs.take k)).length := (List.getElem?_eq_some_iff.1 h).1
  rw [fl1_len, List.length_take] at hi
  rw [fl1_a _ i (by rw [List.length_take]; omega)] at h
  rw [fl1_a _ i (by omega), ← h]
  unfold a1
  rw [List.getD_eq_getElem?_getD, List.getD_eq_getElem?_getD, List.getElem?_take_of_lt (by omega)]
theorem rd_take {w : World} {A : Option Addr} {xs : List Int} (h : Rd w A (fl1 xs)) (k : Nat) : Rd w A (fl1 (xs.take k)) := fun hn => by
  obtain ⟨b, off, rfl, hlt, hc⟩ := h (fun e => hn (by
    have e1 := congrArg List.length e
    rw [fl1_len] at e1
    have : xs = [] := List.eq_nil_of_length_eq_zero (by simpa using e1)
    subst this
    simp [fl1]))
  exact ⟨b, off, rfl, hlt, fun i u hu => hc i u (fl1_take xs k i u hu)⟩
theorem own_capR {w : World} {base t size n cap : Nat} {A : Option Addr} {xs : List Value} (h : w.ownsRow base t size (.slice A n cap) n xs) : n ≤ cap := by
  rcases h.2 with ⟨_, hz⟩ | ⟨g, c, cur, hv, hb, hh, h1, _⟩
  · omega
  · simp only [Value.slice.injEq] at hv
    omega
theorem minutes_in {rs : List (Int × Int)} {rest : Int} {ro : List Int} (h : rosterValid rs rest ro = true) : InR (-120000) 120000 (minutes rs ro) := by
  intro k hk
  rw [minutes, minTo_len] at hk
  have h1 := minTo_in h (k := ro.length) (t := k) (Nat.le_refl _) hk
  obtain ⟨h2, h3, _⟩ := rosterValid_in h
  have h4 := (runsRest_in h2).1
  rw [minutes]
  omega

set_option maxRecDepth 100000 in
set_option maxHeartbeats 8000000 in
theorem walk (A : Option Addr) (xs : List Int) (n c : Nat) (w : World) (hl : xs.length = n) (hm : n ≤ maxLen) (hc : n ≤ c) (hx : Bytes xs) (hr : Rd w A (flU xs)) :
    Calls Try.prog 10 #[.slice A n c] w (Ret w (.bool true)) := by
  unfold maxLen at hm
  by_cases hn : n ≤ 1048576
  rotate_left
  · go_enter Try.func10, Try.ntmps10
    go_wp2_with fail
    go_ret
    exact ⟨rfl, Below.refl _ _⟩
  go_enter Try.func10, Try.ntmps10
  go_wp2_with fail
  refine (DrawRosterSwap_any _ xs _ _ _ hl hn hc hx hr).mono ?_
  rintro e w1 ⟨rs, b, m, cb, rest, ro, b', q, cr, f, x, y, rfl, hl1, m8, hq1, q16, ho1, hp1, hb1⟩
  have Hl1 := hideIt hl1
  have Hq1 := hideIt hq1
  clear hl1 hq1
  obtain ⟨ok, hok⟩ : ∃ ok, swapOk rs rest ro f x y = ok := ⟨_, rfl⟩
  obtain ⟨X, hX⟩ : ∃ X, rosterSwap rs rest ro f x y = X := ⟨_, rfl⟩
  obtain ⟨z, hz⟩ : ∃ z, X.length = z := ⟨_, rfl⟩
  have hz16 : z ≤ 16 := by
    rw [← hz, ← hX, rosterSwap]
    split
    · rw [swapped_len, Hq1.out]; omega
    · simp
  have Hok := hideIt hok
  have HX := hideIt hX
  have Hz := hideIt hz
  clear hok hX hz
  go_wp2_with fail
  refine (implRosterSwap_any _ _ _ _ _ _ _ _ _ _ _ _ _ Hl1.out (by omega) (Rd.of_own ho1) Hq1.out (by omega) (Rd.of_own hp1)).mono ?_
  rw [Hok.out, HX.out, Hz.out]
  rintro e w2 ⟨A2, c2, rfl, ho2, hb2⟩
  have b2 := hb1.trans (hb2.mono hb1.size)
  have ho12 := own_below ho1 hb2 (Nat.le_refl _)
  have hp12 := own_below hp1 hb2 (Nat.le_refl _)
  go_wp2_with fail
  refine (specRosterSwap_any _ _ _ _ _ _ _ _ _ _ _ _ _ Hl1.out (by omega) (Rd.of_own ho12) Hq1.out (by omega) (Rd.of_own hp12)).mono ?_
  rw [Hok.out, HX.out, Hz.out]
  rintro e w3 ⟨A3, c3, rfl, ho3, hb3⟩
  have b3 := b2.trans (hb3.mono b2.size)
  have ho13 := own_below ho12 hb3 (Nat.le_refl _)
  have hp13 := own_below hp12 hb3 (Nat.le_refl _)
  have ho23 := own_below ho2 hb3 (Nat.le_refl _)
  go_wp2_with fail
  refine (sameInts_any _ _ _ _ _ _ _ _ _ Hz.out Hz.out (by omega) (by omega) (Rd.of_own ho23) (Rd.of_own ho3)).mono ?_
  rw [decide_eq_true rfl]
  rintro e w4 ⟨rfl, hb4⟩
  have b4 := b3.trans (hb4.mono b3.size)
  have ho14 := own_below ho13 hb4 (Nat.le_refl _)
  have hp14 := own_below hp13 hb4 (Nat.le_refl _)
  have ho24 := own_below ho23 hb4 (Nat.le_refl _)
  have ho34 := own_below ho3 hb4 (Nat.le_refl _)
  clear ho1 hp1 ho12 hp12 ho13 hp13 ho2 ho23 ho3 hb1 hb2 hb3 hb4 b2 b3
  cases ok
  · go_wp2_with fail
    refine (sameInts_any _ _ _ _ _ _ _ _ _ Hz.out Hz.out (by omega) (by omega) (Rd.of_own ho24) (Rd.of_own ho34)).mono ?_
    rw [decide_eq_true rfl]
    rintro e w5 ⟨rfl, hb5⟩
    go_wp2
    go_ret
    exact ⟨rfl, b4.trans (hb5.mono b4.size)⟩
  have hok := Hok.out
  have hXs : X = swapped ro f x y := by rw [← HX.out, rosterSwap, if_pos hok]
  have hok2 := swapOk_back hok
  rw [← hXs] at hok2
  have hback : rosterSwap rs rest X f x y = ro := by rw [rosterSwap, if_pos hok2, hXs, swapped_twice]
  have hparts := hok
  rw [swapOk, Bool.and_eq_true, Bool.and_eq_true] at hparts
  obtain ⟨⟨hv1, hin⟩, hv2⟩ := hparts
  rw [← hXs] at hv2
  rw [Hl1.out] at hin
  obtain ⟨⟨f0, f1⟩, ⟨x0, x1⟩, y0, y1⟩ := swapIn_t hin
  obtain ⟨fn, rfl⟩ := Int.eq_ofNat_of_zero_le f0
  obtain ⟨xn, rfl⟩ := Int.eq_ofNat_of_zero_le x0
  obtain ⟨yn, rfl⟩ := Int.eq_ofNat_of_zero_le y0
  obtain ⟨_, hqm, hin1⟩ := rosterValid_in hv1
  obtain ⟨_, hzm, hin2⟩ := rosterValid_in hv2
  have hzq : z = q := by rw [← Hz.out, ← Hq1.out]; omega
  have hmq : m = q := by rw [← Hl1.out, ← Hq1.out]; omega
  subst hzq
  subst hmq
  have Hok2 := hideIt hok2
  have Hback := hideIt hback
  have Hv1 := hideIt hv1
  have Hv2 := hideIt hv2
  have Hm1 := hideIt (show (minutes rs ro).length = 12 from minTo_len _ _ _)
  have Hm2 := hideIt (show (minutes rs X).length = 12 from minTo_len _ _ _)
  have Hs1 := hideIt (show sum1 (minutes rs ro) = minAll rs m by rw [minutes, minTo_sum rs ro ro.length hin1, Hq1.out])
  have Hs2 := hideIt (show sum1 (minutes rs X) = minAll rs m by rw [minutes, minTo_sum rs X X.length hin2, Hz.out])
  have Hpair := hideIt (show a1 (minutes rs X) xn + a1 (minutes rs X) yn = a1 (minutes rs ro) xn + a1 (minutes rs ro) yn by
    rw [minutes, minutes, minTo_at rs X xn (by omega) _ hin2, minTo_at rs X yn (by omega) _ hin2, minTo_at rs ro xn (by omega) _ hin1, minTo_at rs ro yn (by omega) _ hin1, Hz.out, Hq1.out, hXs]
    exact minOf_swap rs ro fn xn yn m (by rw [Hq1.out]; exact Nat.le_refl _))
  have Hhead := hideIt (show X.take fn = ro.take fn by rw [hXs]; exact swapped_head ro fn xn yn fn rfl (by rw [Hq1.out]; omega))
  have i1 := minutes_in hv1
  have i2 := minutes_in hv2
  have I1 : Hid (InR (-120000) 120000 (minutes rs ro)) := hideIt i1
  have I2 : Hid (InR (-120000) 120000 (minutes rs X)) := hideIt i2
  have r1 := i1 xn (by rw [Hm1.out]; omega)
  have r2 := i1 yn (by rw [Hm1.out]; omega)
  have r3 := i2 xn (by rw [Hm2.out]; omega)
  have r4 := i2 yn (by rw [Hm2.out]; omega)
  clear hok hXs hok2 hback hv1 hv2 hin hqm hzm hin1 hin2 f0 x0 y0 ho34 i1 i2
  go_wp2_with fail
  refine (implRosterSwap_any _ _ _ _ _ _ _ _ _ _ _ _ _ Hl1.out (by omega) (Rd.of_own ho14) Hz.out (by omega) (Rd.of_own ho24)).mono ?_
  rw [Hok2.out, Hback.out, Hq1.out]
  rintro e w5 ⟨A5, c5, rfl, ho5, hb5⟩
  have b5 := b4.trans (hb5.mono b4.size)
  have ho15 := own_below ho14 hb5 (Nat.le_refl _)
  have hp15 := own_below hp14 hb5 (Nat.le_refl _)
  have ho25 := own_below ho24 hb5 (Nat.le_refl _)
  clear ho14 hp14 ho24 hb5 b4
  go_wp2_with fail
  refine (implRosterMinutes_any _ _ _ _ _ _ _ _ _ _ Hl1.out (by omega) (Rd.of_own ho15) Hq1.out (by omega) (Rd.of_own hp15) Hv1.out).mono ?_
  rintro e w6 ⟨A6, c6, rfl, ho6, hb6⟩
  have b6 := b5.trans (hb6.mono b5.size)
  have ho16 := own_below ho15 hb6 (Nat.le_refl _)
  have hp16 := own_below hp15 hb6 (Nat.le_refl _)
  have ho26 := own_below ho25 hb6 (Nat.le_refl _)
  have ho56 := own_below ho5 hb6 (Nat.le_refl _)
  clear ho15 hp15 ho25 ho5 hb6 b5
  go_wp2_with fail
  refine (implRosterMinutes_any _ _ _ _ _ _ _ _ _ _ Hl1.out (by omega) (Rd.of_own ho16) Hz.out (by omega) (Rd.of_own ho26) Hv2.out).mono ?_
  rintro e w7 ⟨A7, c7, rfl, ho7, hb7⟩
  have b7 := b6.trans (hb7.mono b6.size)
  have hp17 := own_below hp16 hb7 (Nat.le_refl _)
  have ho27 := own_below ho26 hb7 (Nat.le_refl _)
  have ho57 := own_below ho56 hb7 (Nat.le_refl _)
  have ho67 := own_below ho6 hb7 (Nat.le_refl _)
  clear ho16 hp16 ho26 ho56 ho6 hb7 b6
  obtain ⟨g6, rfl, _, _⟩ := own_some ho67 (by omega)
  obtain ⟨g7, rfl, _, _⟩ := own_some ho7 (by omega)
  obtain ⟨g2, rfl, _, _⟩ := own_some ho27 (by omega)
  have k1 := row1_a ho67 (k := xn) (by rw [Hm1.out]; omega)
  have k2 := row1_a ho67 (k := yn) (by rw [Hm1.out]; omega)
  have k3 := row1_a ho7 (k := xn) (by rw [Hm2.out]; omega)
  have k4 := row1_a ho7 (k := yn) (by rw [Hm2.out]; omega)
  have cap2 := own_capR ho27
  have capr := own_capR hp17
  have E1 : ∀ k, Calls Try.prog 15 #[.slice A5 m c5, .slice (some ⟨b', 0, none⟩) m cr] (w7.drewN k) fun e w' => e = .returned (.bool true) ∧ ∃ t, w' = (w7.drewN k).drewN t := fun k => by
    have := sameInts_q A5 (some ⟨b', 0, none⟩) ro ro m m c5 cr (w7.drewN k) Hq1.out Hq1.out (by omega) (by omega) (rdD (Rd.of_own ho57) k) (rdD (Rd.of_own hp17) k)
    rwa [decide_eq_true rfl] at this
  have E2 : ∀ k, Calls Try.prog 15 #[.slice (some ⟨g2, 0, none⟩) fn c2, .slice (some ⟨b', 0, none⟩) fn cr] (w7.drewN k) fun e w' => e = .returned (.bool true) ∧ ∃ t, w' = (w7.drewN k).drewN t := fun k => by
    have := sameInts_q (some ⟨g2, 0, none⟩) (some ⟨b', 0, none⟩) (X.take fn) (ro.take fn) fn fn c2 cr (w7.drewN k) (by rw [List.length_take, Hz.out]; omega) (by rw [List.length_take, Hq1.out]; omega) (by omega) (by omega) (rdD (rd_take (Rd.of_own ho27) fn) k) (rdD (rd_take (Rd.of_own hp17) fn) k)
    rwa [decide_eq_true Hhead.out] at this
  have S1 : ∀ k, Calls Try.prog 41 #[.slice (some ⟨g6, 0, none⟩) 12 c6] (w7.drewN k) fun e w' => e = .returned (.int .i64 (minAll rs m)) ∧ w7.drewN k = w' := fun k => by
    have := sumOf_any (some ⟨g6, 0, none⟩) (minutes rs ro) 12 c6 120000 (w7.drewN k) Hm1.out (by omega) (rdD (Rd.of_own ho67) k) (by omega) I1.out
    rwa [Hs1.out] at this
  have S2 : ∀ k, Calls Try.prog 41 #[.slice (some ⟨g7, 0, none⟩) 12 c7] (w7.drewN k) fun e w' => e = .returned (.int .i64 (minAll rs m)) ∧ w7.drewN k = w' := fun k => by
    have := sumOf_any (some ⟨g7, 0, none⟩) (minutes rs X) 12 c7 120000 (w7.drewN k) Hm2.out (by omega) (rdD (Rd.of_own ho7) k) (by omega) I2.out
    rwa [Hs2.out] at this
  obtain ⟨u1, hu1⟩ : ∃ u, a1 (minutes rs ro) xn = u := ⟨_, rfl⟩
  obtain ⟨u2, hu2⟩ : ∃ u, a1 (minutes rs ro) yn = u := ⟨_, rfl⟩
  obtain ⟨u3, hu3⟩ : ∃ u, a1 (minutes rs X) xn = u := ⟨_, rfl⟩
  obtain ⟨u4, hu4⟩ : ∃ u, a1 (minutes rs X) yn = u := ⟨_, rfl⟩
  have hp := Hpair.out
  rw [hu1, hu2, hu3, hu4] at hp
  rw [hu1] at k1 r1
  rw [hu2] at k2 r2
  rw [hu3] at k3 r3
  rw [hu4] at k4 r4
  have hd : (u1 + u2 == u3 + u4) = true := by simp [hp]
  have e0 : ∀ S : Int, (S == S) = true := fun S => by simp
  have e1 := e0 (minAll rs m)
  have E1' : Hid (∀ k, Calls Try.prog 15 #[.slice A5 m c5, .slice (some ⟨b', 0, none⟩) m cr] (w7.drewN k) fun e w' => e = .returned (.bool true) ∧ ∃ t, w' = (w7.drewN k).drewN t) := hideIt E1
  have E2' : Hid (∀ k, Calls Try.prog 15 #[.slice (some ⟨g2, 0, none⟩) fn c2, .slice (some ⟨b', 0, none⟩) fn cr] (w7.drewN k) fun e w' => e = .returned (.bool true) ∧ ∃ t, w' = (w7.drewN k).drewN t) := hideIt E2
  have S1' : Hid (∀ k, Calls Try.prog 41 #[.slice (some ⟨g6, 0, none⟩) 12 c6] (w7.drewN k) fun e w' => e = .returned (.int .i64 (minAll rs m)) ∧ w7.drewN k = w') := hideIt S1
  have S2' : Hid (∀ k, Calls Try.prog 41 #[.slice (some ⟨g7, 0, none⟩) 12 c7] (w7.drewN k) fun e w' => e = .returned (.int .i64 (minAll rs m)) ∧ w7.drewN k = w') := hideIt S2
  have hx12 : (xn : Int) < 12 := by omega
  have hy12 : (yn : Int) < 12 := by omega
  clear E1 E2 S1 S2 hp hu1 hu2 hu3 hu4 ho27 ho57 ho67 ho7 hp17 e0 x1 y1 Hl1 Hq1 HX Hz Hok Hok2 Hback Hv1 Hv2 Hm1 Hm2 Hs1 Hs2 Hpair Hhead I1 I2 hr hx hl hc
  go_wp2
  go_quiet ((first | (go_at_call 41; first | with_reducible exact quiet_leftQ (S1'.out _) | with_reducible exact quiet_leftQ (S2'.out _)) | (go_at_call 15; first | with_reducible exact Calls.quiet_of (E1'.out _) | with_reducible exact Calls.quiet_of (E2'.out _))))
  go_wp2
  go_ret
  exact ⟨rfl, below_drewN b7 _⟩
end Go.Proofs.Ytpcmkegogcffiaa.fnRosterSwap

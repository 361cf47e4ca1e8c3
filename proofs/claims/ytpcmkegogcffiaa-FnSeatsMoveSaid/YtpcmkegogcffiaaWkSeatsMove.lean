/- The walk of FnSeatsMove. -/
import Derived.Test.YtpcmkegogcffiaaSame
import Derived.Test.YtpcmkegogcffiaaSameBooking
import Derived.Test.YtpcmkegogcffiaaDrSt2
import Derived.Test.YtpcmkegogcffiaaStLaw
import Derived.Test.YtpcmkegogcffiaaSt6
import Derived.Test.YtpcmkegogcffiaaSt10
import Derived.Test.YtpcmkegogcffiaaSt13
namespace Go.Proofs.Ytpcmkegogcffiaa.fnSeatsMove
open Go.RowKit

theorem flip_at (ls : List (Int × Int × Bool)) (k : Nat) (h : k < ls.length) : aB (flip ls k) k = aB ls k ∧ bB (flip ls k) k = bB ls k ∧ cB (flip ls k) k = !cB ls k := by
  unfold aB bB cB flip
  simp only [List.getD_eq_getElem?_getD]
  rw [List.getElem?_set_self h]
  exact ⟨rfl, rfl, rfl⟩
theorem flip_flip (ls : List (Int × Int × Bool)) (k : Nat) (h : k < ls.length) : flip (flip ls k) k = ls := by
  obtain ⟨h1, h2, h3⟩ := flip_at ls k h
  rw [flip, h1, h2, h3, flip, List.set_set, Bool.not_not]
  apply List.ext_getElem?
  intro j
  by_cases e : k = j
  · subst e
    rw [List.getElem?_set_self h, getD_some ls k (0, 0, false) h]
    rfl
  · rw [List.getElem?_set_ne e]
def proj (b : Int × Int × Bool) : Int × Int := (b.1, b.2.1)
def rideM (ps : List (Int × Int)) (leg : Int) : Int := ps.foldr (fun p s => (if p.1 ≤ leg ∧ leg < p.2 then 1 else 0) + s) 0
theorem rideI_map (ls : List (Int × Int × Bool)) (leg : Int) : rideI ls leg = rideM (ls.map proj) leg := by
  induction ls with
  | nil => rfl
  | cons b ls ih => rw [rideI_cons, ih]; rfl
theorem flip_map (ls : List (Int × Int × Bool)) (k : Nat) (h : k < ls.length) : (flip ls k).map proj = ls.map proj := by
  apply List.ext_getElem?
  intro j
  rw [List.getElem?_map, List.getElem?_map, flip]
  by_cases e : k = j
  · subst e
    rw [List.getElem?_set_self h, getD_some ls k (0, 0, false) h]
    rfl
  · rw [List.getElem?_set_ne e]
theorem ride_flip (ls : List (Int × Int × Bool)) (k : Nat) (h : k < ls.length) (leg : Int) : rideI (flip ls k) leg = rideI ls leg := by rw [rideI_map, rideI_map, flip_map ls k h]
theorem due_flip (ls : List (Int × Int × Bool)) (k : Nat) (h : k < ls.length) (mi : List Int) (j : Nat) : dueOf (flip ls k) mi 3 3 j = dueOf ls mi 3 3 j := by
  induction j with
  | zero => rfl
  | succ j ih =>
    rw [dueOf, dueOf, ih]
    have := ride_flip ls k h j
    unfold rideI at this
    unfold legDue
    rw [← Int.mul_add, ← Int.mul_add, this]
theorem takings_flip {n : Int} {ls : List (Int × Int × Bool)} {k : Nat} (h : k < ls.length) (hv : bValid n ls = true) (hv2 : bValid n (flip ls k) = true) (mi : List Int) : seatsTakings n (flip ls k) mi 3 3 = seatsTakings n ls mi 3 3 := by
  unfold seatsTakings
  rw [due_flip ls k h, hv, hv2]
theorem upto_flip {n : Nat} (ls : List (Int × Int × Bool)) (k : Nat) (h : k < ls.length) : upto (rideAt (flip ls k)) n = upto (rideAt ls) n := by
  unfold upto
  apply List.map_congr_left
  intro j _
  exact ride_flip ls k h j

set_option maxRecDepth 100000 in
set_option maxHeartbeats 1000000 in
theorem DrawSeatsCancel_any (A : Option Addr) (xs : List Int) (n c : Nat) (w : World) (hl : xs.length = n) (hn : n ≤ 1048576) (hc : n ≤ c) (hx : Bytes xs) (hr : Rd w A (flU xs)) :
    Calls Try.prog 60 #[.slice A n c] w fun e w' => ∃ (n : Nat) (ls : List (Int × Int × Bool)) (b m c : Nat) (k : Int), e = .returned (.tuple #[.int .i64 n, .slice (some ⟨b, 0, none⟩) m c, .int .i64 k]) ∧ 1 ≤ n ∧ n ≤ 6 ∧ ls.length = m ∧ m ≤ 16 ∧ w'.ownsRow w.heap.size 40 3 (.slice (some ⟨b, 0, none⟩) m c) m (flB ls) ∧ Below w.heap.size w w' := by
  go_enter Try.func60, Try.ntmps60
  go_wp2_with fail
  refine (l6Open_any _ xs _ _ _ hl hn hc hx hr).mono ?_
  rintro e w1 ⟨g, rfl, hg, hr1, hb1⟩
  go_wp2_with fail
  refine (l92Bookings_any g 0 _ (by omega) hr1).mono ?_
  rintro e w2 ⟨nn, ls, b, m, c2, rfl, n1, n6, hl2, hm2, ho2, hg2, hr2⟩
  have b2 := below_pick hb1 hg2 hg hb1.size
  have Hl2 := hideIt hl2
  clear hl2
  go_wp2_with fail
  refine (l92At_any g _ m _ (by omega) (by omega) hr2).mono ?_
  rintro e w3 ⟨v3, rfl, h30, h31, hg3, hr3⟩
  have ho3 := own_pick ho2 hr1.lt hg3
  have b3 := below_pick b2 hg3 hg b2.size
  go_wp2
  go_ret3
  exact ⟨nn, ls, b, m, c2, _, rfl, n1, n6, Hl2.out, hm2, own_base ho3 hb1.size, b3⟩
set_option maxRecDepth 100000 in
set_option maxHeartbeats 1000000 in
theorem DrawSeatsMove_any (A : Option Addr) (xs : List Int) (n c : Nat) (w : World) (hl : xs.length = n) (hn : n ≤ 1048576) (hc : n ≤ c) (hx : Bytes xs) (hr : Rd w A (flU xs)) :
    Calls Try.prog 28 #[.slice A n c] w fun e w' => ∃ (n : Nat) (ls : List (Int × Int × Bool)) (b m c : Nat) (k : Int), e = .returned (.tuple #[.int .i64 n, .slice (some ⟨b, 0, none⟩) m c, .int .i64 k]) ∧ 1 ≤ n ∧ n ≤ 6 ∧ ls.length = m ∧ m ≤ 16 ∧ w'.ownsRow w.heap.size 40 3 (.slice (some ⟨b, 0, none⟩) m c) m (flB ls) ∧ Below w.heap.size w w' := by
  go_enter Try.func28, Try.ntmps28
  go_wp2_with fail
  refine (DrawSeatsCancel_any _ xs _ _ _ hl hn hc hx hr).mono ?_
  rintro e w2 ⟨nn, ls, b, m, c2, k, rfl, n1, n6, hl2, hm2, ho2, hb2⟩
  have Hl2 := hideIt hl2
  clear hl2
  go_wp2
  go_ret3
  exact ⟨nn, ls, b, m, c2, _, rfl, n1, n6, Hl2.out, hm2, ho2, hb2⟩
theorem info_intM : (Try.prog.info? 3).map (fun i => (i.zero, i.size, i.bytes)) = some (some (.int .i64 0), 1, 8) := by kernel_rfl
def oneUp (j : Nat) : Int := 1 + j

set_option maxRecDepth 100000 in
set_option maxHeartbeats 4000000 in
theorem walk (A : Option Addr) (xs : List Int) (n c : Nat) (w : World) (hl : xs.length = n) (hm : n ≤ maxLen) (hc : n ≤ c) (hx : Bytes xs) (hr : Rd w A (flU xs)) :
    Calls Try.prog 6 #[.slice A n c] w (Ret w (.bool true)) := by
  unfold maxLen at hm
  by_cases hn : n ≤ 1048576
  rotate_left
  · go_enter Try.func6, Try.ntmps6
    go_wp2_with fail
    go_ret
    exact ⟨rfl, Below.refl _ _⟩
  obtain ⟨i0, hi, hz0, hz1, hz2⟩ := info_parts info_intM
  go_enter Try.func6, Try.ntmps6
  go_wp2_with fail
  refine (DrawSeatsMove_any _ xs _ _ _ hl hn hc hx hr).mono ?_
  rintro e w1 ⟨nn, ls, b1, m, c1, k, rfl, n1, n6, hl1, m16, ho1, hb1⟩
  have Hl1 := hideIt hl1
  clear hl1
  obtain ⟨ms, hms⟩ : ∃ ms, seatsMove nn ls k = ms := ⟨_, rfl⟩
  have hml : ms.length ≤ 1048576 := by rw [← hms]; exact seatsMove_le nn ls k
  obtain ⟨q, hq⟩ : ∃ q, ms.length = q := ⟨_, rfl⟩
  rw [hq] at hml
  have Hms := hideIt hms
  have Hq := hideIt hq
  clear hms hq
  go_wp2_with fail
  refine (implSeatsMove_any _ _ _ _ _ _ _ Hl1.out (by omega) (Rd.of_own ho1)).mono ?_
  rw [Hms.out, Hq.out]
  rintro e w2 ⟨A2, c2, rfl, ho2, hb2⟩
  have b2 := hb1.trans (hb2.mono hb1.size)
  have ho12 := own_below ho1 hb2 (Nat.le_refl _)
  go_wp2_with fail
  refine (specSeatsMove_any _ _ _ _ _ _ _ Hl1.out (by omega) (Rd.of_own ho12)).mono ?_
  rw [Hms.out, Hq.out]
  rintro e w3 ⟨A3, c3, rfl, ho3, hb3⟩
  have b3 := b2.trans (hb3.mono b2.size)
  have ho13 := own_below ho12 hb3 (Nat.le_refl _)
  have ho23 := own_below ho2 hb3 (Nat.le_refl _)
  go_wp2_with fail
  refine (sameBookings_any _ _ _ _ _ _ _ _ _ Hq.out Hq.out hml hml (Rd.of_own ho23) (Rd.of_own ho3)).mono ?_
  rw [decide_eq_true rfl]
  rintro e w4 ⟨rfl, hb4⟩
  have b4 := b3.trans (hb4.mono b3.size)
  have ho14 := own_below ho13 hb4 (Nat.le_refl _)
  have ho24 := own_below ho23 hb4 (Nat.le_refl _)
  have ho34 := own_below ho3 hb4 (Nat.le_refl _)
  clear ho1 ho12 ho13 ho2 ho23 ho3 hb1 hb2 hb3 hb4 b2 b3
  cases hok : moveOk nn ls k
  · have Hok := hideIt hok
    clear hok
    go_wp2_with fail
    refine (sameBookings_any _ _ _ _ _ _ _ _ _ Hq.out Hq.out hml hml (Rd.of_own ho24) (Rd.of_own ho34)).mono ?_
    rw [decide_eq_true rfl]
    rintro e w5 ⟨rfl, hb5⟩
    go_wp2
    go_ret
    exact ⟨rfl, b4.trans (hb5.mono b4.size)⟩
  · have hp := hok
    simp only [moveOk, Bool.and_eq_true, inL, decide_eq_true_eq] at hp
    obtain ⟨⟨hv, k0, k1⟩, hv2⟩ := hp
    obtain ⟨k, rfl⟩ := Int.eq_ofNat_of_zero_le k0
    rw [Int.toNat_natCast] at hv2
    have hkl : k < ls.length := by omega
    have hm2 : ms = flip ls k := by rw [← Hms.out, seatsMove_t hok, Int.toNat_natCast]
    subst hm2
    have hqm : q = m := by rw [← Hq.out, flip_len, Hl1.out]
    subst hqm
    have hback : seatsMove nn (flip ls k) k = ls := by
      have : moveOk nn (flip ls k) k = true := by
        simp only [moveOk, Bool.and_eq_true, inL, decide_eq_true_eq, flip_len, Int.toNat_natCast, flip_flip ls k hkl]
        exact ⟨⟨hv2, k0, k1⟩, hv⟩
      rw [seatsMove_t this, Int.toNat_natCast, flip_flip ls k hkl]
    have hbok : moveOk nn (flip ls k) k = true := by
      simp only [moveOk, Bool.and_eq_true, inL, decide_eq_true_eq, flip_len, Int.toNat_natCast, flip_flip ls k hkl]
      exact ⟨⟨hv2, k0, k1⟩, hv⟩
    have Hback := hideIt hback
    have Hbok := hideIt hbok
    have Hv := hideIt hv
    have Hv2 := hideIt hv2
    have Hup := hideIt (upto_flip (n := nn) ls k hkl)
    have Htk := hideIt (fun mi => takings_flip hkl hv hv2 mi)
    have hq1 : 0 < q := by rw [← Hl1.out]; omega
    obtain ⟨g2, rfl, _, _⟩ := own_some ho24 hq1
    clear hv hv2 hback hbok hok k1 ho34 hkl
    go_wp2_with fail
    refine (implSeatsMove_any _ _ _ _ _ _ _ Hq.out (by omega) (Rd.of_own ho24)).mono ?_
    rw [Hback.out, Hbok.out, Hl1.out]
    rintro e w5 ⟨A5, c5, rfl, ho5, hb5⟩
    have b5 := b4.trans (hb5.mono b4.size)
    have ho15 := own_below ho14 hb5 (Nat.le_refl _)
    have ho25 := own_below ho24 hb5 (Nat.le_refl _)
    clear ho14 ho24 hb5 b4
    go_wp2_with fail
    refine (implSeatsRide_any _ _ _ _ _ _ Hl1.out (by omega) (Rd.of_own ho15)).mono ?_
    rw [Hv.out, seatsRide_t Hv.out, upto_len]
    rintro e w6 ⟨A6, c6, rfl, ho6, hb6⟩
    have b6 := b5.trans (hb6.mono b5.size)
    have ho16 := own_below ho15 hb6 (Nat.le_refl _)
    have ho26 := own_below ho25 hb6 (Nat.le_refl _)
    have ho56 := own_below ho5 hb6 (Nat.le_refl _)
    clear ho15 ho25 ho5 hb6 b5
    go_wp2_with fail
    refine (implSeatsRide_any _ _ _ _ _ _ Hq.out (by omega) (Rd.of_own ho26)).mono ?_
    rw [Hv2.out, seatsRide_t Hv2.out, upto_len, Hup.out]
    rintro e w7 ⟨A7, c7, rfl, ho7, hb7⟩
    have b7 := b6.trans (hb7.mono b6.size)
    have ho17 := own_below ho16 hb7 (Nat.le_refl _)
    have ho27 := own_below ho26 hb7 (Nat.le_refl _)
    have ho57 := own_below ho56 hb7 (Nat.le_refl _)
    have ho67 := own_below ho6 hb7 (Nat.le_refl _)
    clear ho16 ho26 ho56 ho6 hb7 b6
    have h0 := own_empty w7 3 1
    have hB0 := (Below.refl w7.heap.size w7).alloc (Nat.le_refl _) (.cells #[] 3)
    have Hu := hideIt (upto_len (rideAt ls) nn)
    go_wp2
    go_loopw [16, 17] (fun o i wr => ∃ (j : Nat), j ≤ nn ∧ i = .int .i64 j ∧ wr.ownsRow w7.heap.size 3 1 o j (fl1 (upto oneUp j)) ∧ Below w7.heap.size w7 wr) (fun _ i _ => nn - (intOf i).toNat)
    case atStart => exact ⟨0, by omega, rfl, h0, hB0⟩
    case round =>
      clear h0 hB0
      obtain ⟨j, hj, rfl, hrow, hbw⟩ := hrel
      by_cases hlt : j < nn
      · go_wp2_with (at_builtin; refine wpList_append_own _ rfl (.tmp 87) (.tmp 90) 26 rfl w7.heap.size 3 i0 _ 1 8 Try.underlying26 hi hz0 hz1 hz2 rfl (by decide) _ _ _ rfl (hrow.alloc _) ⟨_, 0, none⟩ 1 1 [.int .i64 (1 + (j : Int))] rfl rfl (cell_one_new _ _ _) (by simp [Value.oneCell']) (by unfold maxLen; omega) (by omega) ((by have := hbw.size; simp; omega)) ?_; intro v' wn hown' hgrow hnn; clear hnn)
        go_roundw
        case rel => exact ⟨j + 1, by omega, by go_num, by rw [upto_succ, fl1_snoc]; exact hown', (hbw.alloc hbw.size _).grown hgrow (Nat.le_trans hbw.size (by simp)) (fun g hg => (hrow.lt g hg).1)⟩
        case measure => simp [intOf]; omega
      · obtain rfl : j = nn := by omega
        obtain ⟨A8, c8, rfl⟩ := own_form hrow
        have b8 := b7.trans (hbw.mono b7.size)
        have ho18 := own_below ho17 hbw (Nat.le_refl _)
        have ho28 := own_below ho27 hbw (Nat.le_refl _)
        have ho58 := own_below ho57 hbw (Nat.le_refl _)
        have ho68 := own_below ho67 hbw (Nat.le_refl _)
        have ho78 := own_below ho7 hbw (Nat.le_refl _)
        have Hmi := hideIt (upto_len oneUp j)
        clear ho17 ho27 ho57 ho67 ho7 hbw b7
        go_wp2_with fail
        refine (sameBookings_any _ _ _ _ _ _ _ _ _ Hl1.out Hl1.out (by omega) (by omega) (Rd.of_own ho58) (Rd.of_own ho18)).mono ?_
        rw [decide_eq_true rfl]
        rintro e w9 ⟨rfl, hb9⟩
        have b9 := b8.trans (hb9.mono b8.size)
        go_wp2_with fail
        refine (sameInts_any _ _ _ _ _ _ _ _ _ Hu.out Hu.out (by omega) (by omega) ((Rd.of_own ho68).below hb9 (Nat.le_refl _)) ((Rd.of_own ho78).below hb9 (Nat.le_refl _))).mono ?_
        rw [decide_eq_true rfl]
        rintro e w10 ⟨rfl, hb10⟩
        have b10 := b9.trans (hb10.mono b9.size)
        have hx10 := hb9.trans (hb10.mono hb9.size)
        go_wp2_with fail
        refine (implSeatsTakings_any _ _ _ _ _ _ _ _ _ _ _ _ Hl1.out (by omega) ((Rd.of_own ho18).below hx10 (Nat.le_refl _)) Hmi.out (by omega) ((Rd.of_own hrow).below hx10 (Nat.le_refl _))).mono ?_
        rintro e w11 ⟨rfl, hb11⟩
        have b11 := b10.trans (hb11.mono b10.size)
        have hx11 := hx10.trans (hb11.mono hx10.size)
        go_wp2_with fail
        refine (implSeatsTakings_any _ _ _ _ _ _ _ _ _ _ _ _ Hq.out (by omega) ((Rd.of_own ho28).below hx11 (Nat.le_refl _)) Hmi.out (by omega) ((Rd.of_own hrow).below hx11 (Nat.le_refl _))).mono ?_
        rw [Htk.out]
        rintro e w12 ⟨rfl, hb12⟩
        go_wp2
        go_ret
        exact ⟨rfl, b11.trans (hb12.mono b11.size)⟩
end Go.Proofs.Ytpcmkegogcffiaa.fnSeatsMove

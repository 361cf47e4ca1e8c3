/- Walks: SeatsTaken, SeatsRide, SeatsFull, of the program and of the reference. -/
import Derived.Test.YtpcmkegogcffiaaSt5
import Derived.Maps.AppendAt
import Derived.BigRegion
import Derived.Deep.RegionHeld3
import Derived.Deep.AppendLies
import Derived.IntWalk
namespace Go.Proofs.Ytpcmkegogcffiaa
open Go.RowKit

theorem info_int : (Try.prog.info? 3).map (fun i => (i.zero, i.size, i.bytes)) = some (some (.int .i64 0), 1, 8) := by kernel_rfl
theorem own_drew {w : World} {base t size n : Nat} {v : Value} {xs : List Value} (h : w.ownsRow base t size v n xs) : w.drew.ownsRow base t size v n xs := h
theorem fl1_upto (f : Nat → Int) (k : Nat) : fl1 (upto f (k + 1)) = fl1 (upto f k) ++ [.int .i64 (f k)] := by rw [upto_succ, fl1_snoc]
/-- what SeatsTaken returns -/
def takenAt (ls : List (Int × Int × Bool)) (ins : Bool) (k : Nat) : Int := taken ls k ins
def seatsTaken (n : Int) (ls : List (Int × Int × Bool)) (ins : Bool) : List Int := if bValid n ls = true then upto (takenAt ls ins) n.toNat else []
theorem seatsTaken_f {n : Int} {ls : List (Int × Int × Bool)} {ins : Bool} (h : bValid n ls = false) : seatsTaken n ls ins = [] := by rw [seatsTaken, h]; rfl
theorem seatsTaken_t {n : Nat} {ls : List (Int × Int × Bool)} {ins : Bool} (h : bValid n ls = true) : seatsTaken n ls ins = upto (takenAt ls ins) n := by rw [seatsTaken, h, if_pos rfl, Int.toNat_natCast]
theorem seatsTaken_le (n : Int) (ls : List (Int × Int × Bool)) (ins : Bool) : (seatsTaken n ls ins).length ≤ 1048576 := by
  unfold seatsTaken; split
  · have := bValid_parts ‹_›
    rw [upto_len]; omega
  · simp
theorem bValid_nat {n : Int} {ls : List (Int × Int × Bool)} (h : bValid n ls = true) : ∃ nn : Nat, n = nn := Int.eq_ofNat_of_zero_le (by have := (bValid_parts h).1; omega)

set_option maxHeartbeats 1000000 in
theorem implSeatsTaken_any (n : Int) (A : Option Addr) (ls : List (Int × Int × Bool)) (m cap : Nat) (ins : Bool) (w : World) (hl : ls.length = m) (hm : m ≤ 1048576) (hr : Rd w A (flB ls)) :
    Calls Try.prog 27 #[.int .i64 n, .slice A m cap, .bool ins] w (RetSB w 3 1 (seatsTaken n ls ins).length (fl1 (seatsTaken n ls ins)) (bValid n ls)) := by
  obtain ⟨i0, hi, hz0, hz1, hz2⟩ := info_parts info_int
  cases hv : bValid n ls
  · rw [seatsTaken_f hv]
    have Hv := hideIt hv
    clear hv
    go_enter Try.func27, Try.ntmps27
    go_wp2_with fail
    refine (implBookingsValid_any _ _ _ _ _ _ _ hl hm (hr.alloc _) Hv.out).mono ?_
    rintro e w1 ⟨rfl, hb1⟩
    go_wp2
    go_ret2
    exact ⟨_, _, rfl, own_below (own_empty w 3 1) hb1 (Nat.le_refl _), ((Below.refl _ _).alloc (Nat.le_refl _) _).trans (hb1.mono (by simp))⟩
  · obtain ⟨nn, rfl⟩ := bValid_nat hv
    obtain ⟨q1, q2, q3, q4, q5⟩ := bValid_parts hv
    rw [seatsTaken_t hv, upto_len]
    have Hv := hideIt hv
    have Hall := hideIt (AllB.mono q4 (show (nn : Int) ≤ 8 by omega))
    have Hl := hideIt hl
    rw [hl] at q3
    clear hv q4 q5 hl
    go_enter Try.func27, Try.ntmps27
    go_wp2_with fail
    refine (implBookingsValid_any _ _ _ _ _ _ _ Hl.out hm (hr.alloc _) Hv.out).mono ?_
    rintro e w1 ⟨rfl, hb1⟩
    have ho1 := own_below (own_empty w 3 1) hb1 (Nat.le_refl _)
    have hbw1 := ((Below.refl w.heap.size w).alloc (Nat.le_refl _) (.cells #[] 3)).trans (hb1.mono (by simp))
    go_wp2
    go_loopw [8, 17] (fun o i wr => ∃ k : Nat, k ≤ nn ∧ i = .int .i64 k ∧ wr.ownsRow w.heap.size 3 1 o k (fl1 (upto (takenAt ls ins) k)) ∧ Below w.heap.size w wr) (fun _ i _ => nn - (intOf i).toNat)
    case atStart => exact ⟨0, by omega, rfl, ho1, hbw1⟩
    case round =>
      clear ho1 hbw1
      obtain ⟨k, hk, rfl, hrow, hbw⟩ := hrel
      by_cases hlt : k < nn
      · go_wp2_with fail
        refine (takenOn_any _ _ _ _ _ _ _ Hl.out hm (hr.below hbw (Nat.le_refl _)) Hall.out (by omega)).mono ?_
        rintro e w2 ⟨rfl, hb2⟩
        have hrow2 := own_below hrow hb2 (Nat.le_refl _)
        have hbw2 := hbw.trans (hb2.mono hbw.size)
        clear hrow hbw
        go_wp2_with (at_builtin; refine wpList_append_own _ rfl (.tmp 20) (.tmp 25) 26 rfl w.heap.size 3 i0 _ 1 8 Try.underlying26 hi hz0 hz1 hz2 rfl (by decide) _ _ _ rfl (hrow2.alloc _) ⟨_, 0, none⟩ 1 1 [.int .i64 (taken ls k ins)] rfl rfl (cell_one_new _ _ _) (by simp [Value.oneCell']) (by unfold maxLen; omega) (by omega) ((by have := hbw2.size; simp; omega)) ?_; intro v' wn hown' hgrow hnn; clear hnn)
        go_roundw
        case rel => exact ⟨k + 1, by omega, by go_num, by rw [fl1_upto]; exact hown', (hbw2.alloc hbw2.size _).grown hgrow (Nat.le_trans hbw2.size (by simp)) (fun g hg => (hrow2.lt g hg).1)⟩
        case measure => simp [intOf]; omega
      · obtain rfl : k = nn := by omega
        obtain ⟨A', c', rfl⟩ := own_form hrow
        go_wp2
        go_ret2
        exact ⟨_, _, rfl, hrow, hbw⟩

/-- what SeatsRide returns -/
def rideAt (ls : List (Int × Int × Bool)) (k : Nat) : Int := taken ls k true + taken ls k false
def seatsRide (n : Int) (ls : List (Int × Int × Bool)) : List Int := if bValid n ls = true then upto (rideAt ls) n.toNat else []
theorem seatsRide_f {n : Int} {ls : List (Int × Int × Bool)} (h : bValid n ls = false) : seatsRide n ls = [] := by rw [seatsRide, h]; rfl
theorem seatsRide_t {n : Nat} {ls : List (Int × Int × Bool)} (h : bValid n ls = true) : seatsRide n ls = upto (rideAt ls) n := by rw [seatsRide, h, if_pos rfl, Int.toNat_natCast]
theorem seatsRide_le (n : Int) (ls : List (Int × Int × Bool)) : (seatsRide n ls).length ≤ 1048576 := by
  unfold seatsRide; split
  · have := bValid_parts ‹_›
    rw [upto_len]; omega
  · simp

set_option maxHeartbeats 1000000 in
theorem implSeatsRide_any (n : Int) (A : Option Addr) (ls : List (Int × Int × Bool)) (m cap : Nat) (w : World) (hl : ls.length = m) (hm : m ≤ 1048576) (hr : Rd w A (flB ls)) :
    Calls Try.prog 16 #[.int .i64 n, .slice A m cap] w (RetSB w 3 1 (seatsRide n ls).length (fl1 (seatsRide n ls)) (bValid n ls)) := by
  obtain ⟨i0, hi, hz0, hz1, hz2⟩ := info_parts info_int
  cases hv : bValid n ls
  · rw [seatsRide_f hv]
    have Hv := hideIt hv
    clear hv
    go_enter Try.func16, Try.ntmps16
    go_wp2_with fail
    refine (implBookingsValid_any _ _ _ _ _ _ _ hl hm (hr.alloc _) Hv.out).mono ?_
    rintro e w1 ⟨rfl, hb1⟩
    go_wp2
    go_ret2
    exact ⟨_, _, rfl, own_below (own_empty w 3 1) hb1 (Nat.le_refl _), ((Below.refl _ _).alloc (Nat.le_refl _) _).trans (hb1.mono (by simp))⟩
  · obtain ⟨nn, rfl⟩ := bValid_nat hv
    obtain ⟨q1, q2, q3, q4, q5⟩ := bValid_parts hv
    rw [seatsRide_t hv, upto_len]
    have Hv := hideIt hv
    have Hall := hideIt (AllB.mono q4 (show (nn : Int) ≤ 8 by omega))
    have Hl := hideIt hl
    rw [hl] at q3
    clear hv q4 q5 hl
    go_enter Try.func16, Try.ntmps16
    go_wp2_with fail
    refine (implBookingsValid_any _ _ _ _ _ _ _ Hl.out hm (hr.alloc _) Hv.out).mono ?_
    rintro e w1 ⟨rfl, hb1⟩
    have ho1 := own_below (own_empty w 3 1) hb1 (Nat.le_refl _)
    have hbw1 := ((Below.refl w.heap.size w).alloc (Nat.le_refl _) (.cells #[] 3)).trans (hb1.mono (by simp))
    go_wp2
    go_loopw [6, 15] (fun o i wr => ∃ k : Nat, k ≤ nn ∧ i = .int .i64 k ∧ wr.ownsRow w.heap.size 3 1 o k (fl1 (upto (rideAt ls) k)) ∧ Below w.heap.size w wr) (fun _ i _ => nn - (intOf i).toNat)
    case atStart => exact ⟨0, by omega, rfl, ho1, hbw1⟩
    case round =>
      clear ho1 hbw1
      obtain ⟨k, hk, rfl, hrow, hbw⟩ := hrel
      by_cases hlt : k < nn
      · go_wp2_with fail
        refine (takenOn_any _ _ _ _ _ _ _ Hl.out hm (hr.below hbw (Nat.le_refl _)) Hall.out (by omega)).mono ?_
        rintro e w2 ⟨rfl, hb2⟩
        have hrow2 := own_below hrow hb2 (Nat.le_refl _)
        have hbw2 := hbw.trans (hb2.mono hbw.size)
        clear hrow hbw
        have t1 := taken_in ls k true
        have t2 := taken_in ls k false
        rw [Hl.out] at t1 t2
        go_wp2_with fail
        refine (takenOn_any _ _ _ _ _ _ _ Hl.out hm (hr.below hbw2 (Nat.le_refl _)) Hall.out (by omega)).mono ?_
        rintro e w3 ⟨rfl, hb3⟩
        have hrow3 := own_below hrow2 hb3 (Nat.le_refl _)
        have hbw3 := hbw2.trans (hb3.mono hbw2.size)
        clear hrow2 hbw2
        go_wp2_with (at_builtin; refine wpList_append_own _ rfl (.tmp 18) (.tmp 26) 26 rfl w.heap.size 3 i0 _ 1 8 Try.underlying26 hi hz0 hz1 hz2 rfl (by decide) _ _ _ rfl (hrow3.alloc _) ⟨_, 0, none⟩ 1 1 [.int .i64 (taken ls k true + taken ls k false)] rfl rfl (cell_one_new _ _ _) (by simp [Value.oneCell']) (by unfold maxLen; omega) (by omega) ((by have := hbw3.size; simp; omega)) ?_; intro v' wn hown' hgrow hnn; clear hnn)
        go_roundw
        case rel => exact ⟨k + 1, by omega, by go_num, by rw [fl1_upto]; exact hown', (hbw3.alloc hbw3.size _).grown hgrow (Nat.le_trans hbw3.size (by simp)) (fun g hg => (hrow3.lt g hg).1)⟩
        case measure => simp [intOf]; omega
      · obtain rfl : k = nn := by omega
        obtain ⟨A', c', rfl⟩ := own_form hrow
        go_wp2
        go_ret2
        exact ⟨_, _, rfl, hrow, hbw⟩

end Go.Proofs.Ytpcmkegogcffiaa

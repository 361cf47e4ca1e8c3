/- Walks: SeatsFree, of the program and of the reference. -/
import Derived.Test.YtpcmkegogcffiaaSt5
namespace Go.Proofs.Ytpcmkegogcffiaa
open Go.RowKit
theorem bValid_nat' {n : Int} {ls : List (Int × Int × Bool)} (h : bValid n ls = true) : ∃ nn : Nat, n = nn := Int.eq_ofNat_of_zero_le (by have := (bValid_parts h).1; omega)

/-- the number of seats of a kind -/
def seats (ins : Bool) : Int := cond ins 4 6
theorem seats_in (ins : Bool) : 4 ≤ seats ins ∧ seats ins ≤ 6 := by cases ins <;> simp [seats]
/-- the least number of free seats over so many legs from f on -/
def leastTo (ls : List (Int × Int × Bool)) (ins : Bool) (f : Nat) : Nat → Int
  | 0 => seats ins
  | j + 1 => min (leastTo ls ins f j) (seats ins - taken ls ((f + j : Nat) : Int) ins)
theorem leastTo_in (ls : List (Int × Int × Bool)) (ins : Bool) (f j : Nat) : -(ls.length : Int) ≤ leastTo ls ins f j ∧ leastTo ls ins f j ≤ 6 := by
  induction j with
  | zero => have := seats_in ins; simp only [leastTo]; omega
  | succ j ih => have := seats_in ins; have := taken_in ls ((f + j : Nat) : Int) ins; simp only [leastTo]; omega
def seatsFree (n : Int) (ls : List (Int × Int × Bool)) (f t : Int) (ins : Bool) : Int := if bValid n ls = true ∧ bOk n (f, t, false) = true then leastTo ls ins f.toNat (t - f).toNat else -1
theorem seatsFree_a {n : Int} {ls : List (Int × Int × Bool)} {f t : Int} {ins : Bool} (h : bValid n ls = false) : seatsFree n ls f t ins = -1 := by rw [seatsFree, if_neg]; rw [h]; simp
theorem seatsFree_b {n : Int} {ls : List (Int × Int × Bool)} {f t : Int} {ins : Bool} (h : bOk n (f, t, false) = false) : seatsFree n ls f t ins = -1 := by rw [seatsFree, if_neg]; rw [h]; simp
theorem seatsFree_t {n : Int} {ls : List (Int × Int × Bool)} {f t : Nat} {ins : Bool} (h : bValid n ls = true) (h2 : bOk n (f, t, false) = true) : seatsFree n ls f t ins = leastTo ls ins f (t - f) := by
  rw [seatsFree, if_pos ⟨h, h2⟩]
  congr 1
  omega
theorem bOk_parts {n f t : Int} {b : Bool} (h : bOk n (f, t, b) = true) : 0 ≤ f ∧ f < t ∧ t ≤ n := by
  simp only [bOk, Bool.and_eq_true, decide_eq_true_eq] at h; omega
theorem bOk_not {n f t : Int} {b : Bool} (h : bOk n (f, t, b) = false) : f < 0 ∨ t ≤ f ∨ n < t := by
  simp only [bOk, Bool.and_eq_false_iff, decide_eq_false_iff_not] at h; omega

set_option maxRecDepth 100000 in
set_option maxHeartbeats 1000000 in
theorem implSeatsFree_any (n : Int) (A : Option Addr) (ls : List (Int × Int × Bool)) (m cap : Nat) (f t : Int) (ins : Bool) (w : World) (hl : ls.length = m) (hm : m ≤ 1048576) (hr : Rd w A (flB ls)) :
    Calls Try.prog 17 #[.int .i64 n, .slice A m cap, .int .i64 f, .int .i64 t, .bool ins] w (Ret w (.int .i64 (seatsFree n ls f t ins))) := by
  cases hv : bValid n ls
  · rw [seatsFree_a hv]
    have Hv := hideIt hv
    clear hv
    go_enter Try.func17, Try.ntmps17
    go_wp2_with fail
    refine (implBookingsValid_any _ _ _ _ _ _ _ hl hm hr Hv.out).mono ?_
    rintro e w1 ⟨rfl, hb1⟩
    go_wp2
    go_ret
    exact ⟨rfl, hb1⟩
  cases ho : bOk n (f, t, false)
  · rw [seatsFree_b ho]
    have Hv := hideIt hv
    have Ho := hideIt ho
    clear hv ho
    go_enter Try.func17, Try.ntmps17
    go_wp2_with fail
    refine (implBookingsValid_any _ _ _ _ _ _ _ hl hm hr Hv.out).mono ?_
    rintro e w1 ⟨rfl, hb1⟩
    go_wp2_with fail
    refine (stopsOrdered_any _ _ _ _ _ Ho.out).mono ?_
    rintro e w' ⟨rfl, rfl⟩
    go_wp2
    go_ret
    exact ⟨rfl, hb1⟩
  · obtain ⟨q1, q2, q3, q4, q5⟩ := bValid_parts hv
    obtain ⟨o1, o2, o3⟩ := bOk_parts ho
    obtain ⟨nn, rfl⟩ := bValid_nat' hv
    obtain ⟨f, rfl⟩ := Int.eq_ofNat_of_zero_le o1
    obtain ⟨t, rfl⟩ := Int.eq_ofNat_of_zero_le (show 0 ≤ t by omega)
    rw [seatsFree_t hv ho]
    have Hv := hideIt hv
    have Ho := hideIt ho
    have Hall := hideIt (AllB.mono q4 (show (nn : Int) ≤ 8 by omega))
    have Hl := hideIt hl
    rw [hl] at q3
    clear hv ho q4 q5 hl
    go_enter Try.func17, Try.ntmps17
    go_wp2_with fail
    refine (implBookingsValid_any _ _ _ _ _ _ _ Hl.out hm hr Hv.out).mono ?_
    rintro e w1 ⟨rfl, hb1⟩
    go_wp2_with fail
    refine (stopsOrdered_any _ _ _ _ _ Ho.out).mono ?_
    rintro e w' ⟨rfl, rfl⟩
    go_wp2_with fail
    refine (ticketOf_any f t _ _ (by omega) (by omega)).mono ?_
    rintro e w2 ⟨rfl, hb2⟩
    have hbw2 := hb1.trans (hb2.mono hb1.size)
    go_wp2_with fail
    refine (seatsOf_any f t ins _).mono ?_
    rintro e w' ⟨rfl, rfl⟩
    rw [show (cond ins 4 6 : Int) = seats ins from rfl]
    obtain ⟨s1, s2⟩ := seats_in ins
    go_wp2
    go_loopw [12, 13] (fun l i wr => ∃ (j : Nat) (x : Int), f + j ≤ t ∧ i = .int .i64 ((f + j : Nat) : Int) ∧ l = .int .i64 x ∧ x = leastTo ls ins f j ∧ Below w.heap.size w wr) (fun _ i _ => t - (intOf i).toNat)
    case atStart => exact ⟨0, _, by omega, rfl, rfl, rfl, hbw2⟩
    case round =>
      clear hb1 hb2 hbw2
      obtain ⟨j, x, hj, rfl, rfl, hx, hbw⟩ := hrel
      have hxi := leastTo_in ls ins f j
      rw [← hx, Hl.out] at hxi
      have Hx := hideIt hx
      clear hx
      obtain ⟨leg, hleg⟩ : ∃ leg, f + j = leg := ⟨_, rfl⟩
      have hs : leastTo ls ins f (j + 1) = min x (seats ins - taken ls leg ins) := by rw [leastTo, ← Hx.out, hleg]
      rw [hleg] at hj ⊢
      have Hs := hideIt hs
      have Hleg := hideIt hleg
      clear hs hleg
      by_cases hlt : leg < t
      · have ht := taken_in ls leg ins
        rw [Hl.out] at ht
        go_wp2_with fail
        refine (takenOn_any _ _ _ _ _ _ _ Hl.out hm (hr.below hbw (Nat.le_refl _)) Hall.out (by omega)).mono ?_
        rintro e w3 ⟨rfl, hb3⟩
        have hbw3 := hbw.trans (hb3.mono hbw.size)
        go_wp2
        go_roundw
        case rel => exact ⟨j + 1, _, by have := Hleg.out; omega, by rw [← Hleg.out]; go_num, rfl, by rw [Hs.out]; split <;> omega, hbw3⟩
        case measure => simp [intOf]; omega
      · go_wp2
        go_ret
        have hjt : j = t - f := by have := Hleg.out; omega
        exact ⟨ret_int (by rw [Hx.out, hjt]), hbw⟩
end Go.Proofs.Ytpcmkegogcffiaa

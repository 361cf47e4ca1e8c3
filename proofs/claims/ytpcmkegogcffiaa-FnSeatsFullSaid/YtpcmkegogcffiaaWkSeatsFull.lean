/- The walk of FnSeatsFull. -/
import Derived.Test.YtpcmkegogcffiaaSame
import Derived.Test.YtpcmkegogcffiaaHasInt
import Derived.Test.YtpcmkegogcffiaaDrSt2
import Derived.Test.YtpcmkegogcffiaaStLaw
import Derived.Test.YtpcmkegogcffiaaSt7
import Derived.Test.YtpcmkegogcffiaaSt8
namespace Go.Proofs.Ytpcmkegogcffiaa.fnSeatsFull
open Go.RowKit

theorem free_one {n k : Nat} {ls : List (Int × Int × Bool)} {ins : Bool} (hv : bValid n ls = true) (hk : k < n) : seatsFree n ls k ((k : Int) + 1) ins = seats ins - taken ls k ins := by
  have h : bOk n ((k : Int), ((k + 1 : Nat) : Int), false) = true := by simp [bOk]; omega
  have := seatsFree_t (ins := ins) hv h
  rw [show ((k : Int) + 1) = ((k + 1 : Nat) : Int) by omega, this, show k + 1 - k = 1 by omega]
  have := taken_in ls k ins
  simp only [leastTo, Nat.add_zero]
  omega
theorem fullTo_mem (ls : List (Int × Int × Bool)) (n : Nat) (k : Nat) : ((k : Int) ∈ fullTo ls n) ↔ k < n ∧ isFull ls k = true := by
  induction n with
  | zero => simp [fullTo]
  | succ n ih =>
    rw [fullTo, List.mem_append, ih]
    constructor
    · rintro (⟨h1, h2⟩ | h)
      · exact ⟨by omega, h2⟩
      · split at h
        · rename_i hf
          simp at h
          obtain rfl : k = n := by omega
          exact ⟨by omega, hf⟩
        · simp at h
    · rintro ⟨h1, h2⟩
      by_cases e : k = n
      · subst e; right; rw [h2]; simp
      · exact .inl ⟨by omega, h2⟩
theorem full_dec {ls : List (Int × Int × Bool)} {n k : Nat} (hk : k < n) : decide ((k : Int) ∈ fullTo ls n) = isFull ls k := by
  rw [Bool.eq_iff_iff, decide_eq_true_iff, fullTo_mem]
  simp [hk]
theorem ride_at {ls : List (Int × Int × Bool)} {n k : Nat} (h : k < n) : a1 (upto (rideAt ls) n) k = rideAt ls k := by simp [a1, upto, h]

set_option maxRecDepth 100000 in
set_option maxHeartbeats 4000000 in
theorem walk (A : Option Addr) (xs : List Int) (n c : Nat) (w : World) (hl : xs.length = n) (hm : n ≤ maxLen) (hc : n ≤ c) (hx : Bytes xs) (hr : Rd w A (flU xs)) :
    Calls Try.prog 3 #[.slice A n c] w (Ret w (.bool true)) := by
  unfold maxLen at hm
  by_cases hn : n ≤ 1048576
  rotate_left
  · go_enter Try.func3, Try.ntmps3
    go_wp2_with fail
    go_ret
    exact ⟨rfl, Below.refl _ _⟩
  go_enter Try.func3, Try.ntmps3
  go_wp2_with fail
  refine (DrawSeatsFull_any _ xs _ _ _ hl hn hc hx hr).mono ?_
  rintro e w1 ⟨nn, ls, b1, m, c1, rfl, n1, n6, hl1, m16, ho1, hb1⟩
  have Hl1 := hideIt hl1
  clear hl1
  obtain ⟨fs, hfs⟩ : ∃ fs, seatsFull nn ls = fs := ⟨_, rfl⟩
  have hfl : fs.length ≤ 1048576 := by rw [← hfs]; exact seatsFull_le nn ls
  obtain ⟨q, hq⟩ : ∃ q, fs.length = q := ⟨_, rfl⟩
  rw [hq] at hfl
  have Hfs := hideIt hfs
  have Hq := hideIt hq
  clear hfs hq
  go_wp2_with fail
  refine (implSeatsFull_any _ _ _ _ _ _ Hl1.out (by omega) (Rd.of_own ho1)).mono ?_
  rw [Hfs.out, Hq.out]
  rintro e w2 ⟨A2, c2, rfl, ho2, hb2⟩
  have b2 := hb1.trans (hb2.mono hb1.size)
  have ho12 := own_below ho1 hb2 (Nat.le_refl _)
  go_wp2_with fail
  refine (specSeatsFull_any _ _ _ _ _ _ Hl1.out (by omega) (Rd.of_own ho12)).mono ?_
  rw [Hfs.out, Hq.out]
  rintro e w3 ⟨A3, c3, rfl, ho3, hb3⟩
  have b3 := b2.trans (hb3.mono b2.size)
  have ho13 := own_below ho12 hb3 (Nat.le_refl _)
  have ho23 := own_below ho2 hb3 (Nat.le_refl _)
  go_wp2_with fail
  refine (sameInts_any _ _ _ _ _ _ _ _ _ Hq.out Hq.out hfl hfl (Rd.of_own ho23) (Rd.of_own ho3)).mono ?_
  rw [decide_eq_true rfl]
  rintro e w4 ⟨rfl, hb4⟩
  have b4 := b3.trans (hb4.mono b3.size)
  have ho14 := own_below ho13 hb4 (Nat.le_refl _)
  have ho24 := own_below ho23 hb4 (Nat.le_refl _)
  have ho34 := own_below ho3 hb4 (Nat.le_refl _)
  clear ho1 ho12 ho13 ho2 ho23 ho3 hb1 hb2 hb3 hb4 b2 b3
  by_cases hq0 : q = 0
  · subst hq0
    go_wp2_with fail
    refine (sameInts_any _ _ _ _ _ _ _ _ _ Hq.out Hq.out hfl hfl (Rd.of_own ho24) (Rd.of_own ho34)).mono ?_
    rw [decide_eq_true rfl]
    rintro e w5 ⟨rfl, hb5⟩
    go_wp2
    go_ret
    exact ⟨rfl, b4.trans (hb5.mono b4.size)⟩
  · have hqd : ((q : Int) == 0) = false := by simp; omega
    have hv : bValid nn ls = true := by
      cases hv : bValid nn ls
      · have := Hfs.out
        rw [seatsFull_f hv] at this
        have h2 := Hq.out
        rw [← this] at h2
        simp at h2
        omega
      · rfl
    obtain ⟨q1, q2, q3, q4, q5⟩ := bValid_parts hv
    have Hv := hideIt hv
    have Hfive := hideIt q5
    have Hfs2 := hideIt (show fs = fullTo ls nn by rw [← Hfs.out, seatsFull_t hv])
    clear hv q4 q5 hq0
    go_wp2_with fail
    refine (implSeatsRide_any _ _ _ _ _ _ Hl1.out (by omega) (Rd.of_own ho14)).mono ?_
    rw [Hv.out, seatsRide_t Hv.out, upto_len]
    rintro e w5 ⟨A5, c5, rfl, ho5, hb5⟩
    have b5 := b4.trans (hb5.mono b4.size)
    have ho15 := own_below ho14 hb5 (Nat.le_refl _)
    have ho25 := own_below ho24 hb5 (Nat.le_refl _)
    clear ho14 ho24 ho34 hb5 b4
    go_wp2
    go_loopw [9] (fun i wr => ∃ (j : Nat), j ≤ nn ∧ i = .int .i64 j ∧ Below w5.heap.size w5 wr) (fun i _ => nn - (intOf i).toNat)
    case atStart => exact ⟨0, by omega, rfl, Below.refl _ _⟩
    case round =>
      obtain ⟨j, hj, rfl, hbw⟩ := hrel
      by_cases hlt : j < nn
      · have hku : j < (upto (rideAt ls) nn).length := by rw [upto_len]; exact hlt
        have Hf1 := hideIt (free_one (ins := true) Hv.out hlt)
        have Hf2 := hideIt (free_one (ins := false) Hv.out hlt)
        have Hmem := hideIt (full_dec (ls := ls) hlt)
        obtain ⟨s1, s2⟩ := Hfive.out j (by omega)
        have t1 := taken_in ls j true
        have t2 := taken_in ls j false
        have hrd := (Rd.of_own ho15).below hbw (Nat.le_refl _)
        have hjn : (j : Int) < (nn : Int) := by omega
        obtain ⟨x, hx⟩ : ∃ f, taken ls j true = f := ⟨_, rfl⟩
        obtain ⟨y, hy⟩ : ∃ f, taken ls j false = f := ⟨_, rfl⟩
        have Hif := hideIt (isFull_of hx hy)
        have hri : rideAt ls j = x + y := by rw [rideAt, hx, hy]
        rw [hx] at Hf1 s1 t1
        rw [hy] at Hf2 s2 t2
        have Hri := hideIt hri
        clear hx hy hri
        go_wp2_with fail
        refine (implSeatsFree_any _ _ _ _ _ _ _ _ _ Hl1.out (by omega) hrd).mono ?_
        rw [Hf1.out]
        rintro e w6 ⟨rfl, hb6⟩
        have hbw6 := hbw.trans (hb6.mono hbw.size)
        have hrd6 := hrd.below hb6 (Nat.le_refl _)
        clear hrd hbw hb6
        rw [show seats true = 4 from rfl]
        by_cases c1 : x = 4
        · subst c1
          go_wp2_with fail
          refine (implSeatsFree_any _ _ _ _ _ _ _ _ _ Hl1.out (by omega) hrd6).mono ?_
          rw [Hf2.out]
          rintro e w7 ⟨rfl, hb7⟩
          have hbw7 := hbw6.trans (hb7.mono hbw6.size)
          clear hrd6 hbw6 hb7
          rw [show seats false = 6 from rfl]
          have hs5 := (Rd.of_own ho5).below hbw7 (Nat.le_refl _)
          have hs2 := (Rd.of_own ho25).below hbw7 (Nat.le_refl _)
          obtain ⟨b, off, rfl, hb, hcc⟩ := hs5.at1 hku
          have hxx := hcc j hku
          rw [ride_at hlt, Hri.out] at hxx
          clear hcc hs5 hku
          by_cases c2 : y = 6
          · subst c2
            go_wp2_with fail
            refine (hasInt_any _ fs _ _ _ _ Hq.out hfl hs2).mono ?_
            rw [Hfs2.out, Hmem.out, Hif.out]
            rintro e w8 ⟨rfl, rfl⟩
            go_wp2
            go_roundw
            case rel => exact ⟨j + 1, by omega, by go_num, hbw7⟩
            case measure => simp [intOf]; omega
          · have d1 : (6 - y == 0) = false := by simp; omega
            have d2 : (4 + y == 10) = false := by simp; omega
            have Hd := hideIt (show (decide ((4 : Int) = 4) && decide (y = 6)) = false by simp [c2])
            clear c2
            go_wp2_with fail
            refine (hasInt_any _ fs _ _ _ _ Hq.out hfl hs2).mono ?_
            rw [Hfs2.out, Hmem.out, Hif.out, Hd.out]
            rintro e w8 ⟨rfl, rfl⟩
            go_wp2
            go_roundw
            case rel => exact ⟨j + 1, by omega, by go_num, hbw7⟩
            case measure => simp [intOf]; omega
        · have d1 : (4 - x == 0) = false := by simp; omega
          have d2 : (x + y == 10) = false := by simp; omega
          have Hd := hideIt (show (decide (x = 4) && decide (y = 6)) = false by simp [c1])
          have hs5 := (Rd.of_own ho5).below hbw6 (Nat.le_refl _)
          have hs2 := (Rd.of_own ho25).below hbw6 (Nat.le_refl _)
          obtain ⟨b, off, rfl, hb, hcc⟩ := hs5.at1 hku
          have hxx := hcc j hku
          rw [ride_at hlt, Hri.out] at hxx
          clear hcc hs5 hku c1
          go_wp2_with fail
          refine (hasInt_any _ fs _ _ _ _ Hq.out hfl hs2).mono ?_
          rw [Hfs2.out, Hmem.out, Hif.out, Hd.out]
          rintro e w8 ⟨rfl, rfl⟩
          go_wp2
          go_roundw
          case rel => exact ⟨j + 1, by omega, by go_num, hbw6⟩
          case measure => simp [intOf]; omega
      · go_wp2
        go_ret
        exact ⟨rfl, b5.trans (hbw.mono b5.size)⟩
end Go.Proofs.Ytpcmkegogcffiaa.fnSeatsFull

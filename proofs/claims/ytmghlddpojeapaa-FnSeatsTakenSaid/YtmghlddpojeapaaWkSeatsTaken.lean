/- The walk of FnSeatsTaken. -/
import Derived.Test.YtmghlddpojeapaaSame
import Derived.Test.YtmghlddpojeapaaDrSt
import Derived.Test.YtmghlddpojeapaaStLaw
import Derived.Test.YtmghlddpojeapaaSt6
import Derived.Test.YtmghlddpojeapaaSt8
import Derived.Deep.RegionHeld3
import Derived.IntWalk
namespace Go.Proofs.Ytmghlddpojeapaa.fnSeatsTaken
open Go.RowKit

theorem taken_at {ls : List (Int × Int × Bool)} {ins : Bool} {n k : Nat} (h : k < n) : a1 (upto (takenAt ls ins) n) k = taken ls k ins := by simp [a1, upto, h, takenAt]

set_option maxRecDepth 100000 in
set_option maxHeartbeats 1000000 in
theorem DrawSeatsTaken_any (A : Option Addr) (xs : List Int) (n c : Nat) (w : World) (hl : xs.length = n) (hn : n ≤ 1048576) (hc : n ≤ c) (hx : Bytes xs) (hr : Rd w A (flU xs)) :
    Calls Try.prog 47 #[.slice A n c] w fun e w' => ∃ (n : Nat) (ls : List (Int × Int × Bool)) (b m c : Nat) (z : Bool), e = .returned (.tuple #[.int .i64 n, .slice (some ⟨b, 0, none⟩) m c, .bool z]) ∧ 1 ≤ n ∧ n ≤ 6 ∧ ls.length = m ∧ m ≤ 16 ∧ w'.ownsRow w.heap.size 49 3 (.slice (some ⟨b, 0, none⟩) m c) m (flB ls) ∧ Below w.heap.size w w' := by
  go_enter Try.func47, Try.ntmps47
  go_wp2_with fail
  refine (l6Open_any _ xs _ _ _ hl hn hc hx hr).mono ?_
  rintro e w1 ⟨g, rfl, hg, hr1, hb1⟩
  go_wp2_with fail
  refine (l92Bookings_any g 0 _ (by omega) hr1).mono ?_
  rintro e w2 ⟨nn, ls, b, m, c2, rfl, n1, n6, hl2, hm2, ho2, hg2, hr2⟩
  have b2 := below_pick hb1 hg2 hg hb1.size
  go_wp2_with fail
  refine (pick_any g _ 2 _ (by omega) (by omega) (by omega) hr2).mono ?_
  rintro e w3 ⟨v3, rfl, h30, h31, hg3, hr3⟩
  have ho3 := own_pick ho2 hr1.lt hg3
  have b3 := below_pick b2 hg3 hg b2.size
  have Hl2 := hideIt hl2
  clear hl2
  go_wp2
  go_ret3
  exact ⟨nn, ls, b, m, c2, _, rfl, n1, n6, Hl2.out, hm2, own_base ho3 hb1.size, b3⟩

theorem lawsSeatsOf_any (ins : Bool) (w : World) : Calls Try.prog 48 #[.bool ins] w fun e w' => e = .returned (.int .i64 (seats ins)) ∧ w = w' := by
  cases ins
  all_goals
    go_enter Try.func48, Try.ntmps48
    go_wp2
    go_ret
    exact ⟨rfl, rfl⟩
theorem free_one {n k : Nat} {ls : List (Int × Int × Bool)} {ins : Bool} (hv : bValid n ls = true) (hk : k < n) : seatsFree n ls k ((k : Int) + 1) ins = seats ins - taken ls k ins := by
  have h : bOk n ((k : Int), ((k + 1 : Nat) : Int), false) = true := by simp [bOk]; omega
  have := seatsFree_t (ins := ins) hv h
  rw [show ((k : Int) + 1) = ((k + 1 : Nat) : Int) by omega, this, show k + 1 - k = 1 by omega]
  have := taken_in ls k ins
  simp only [leastTo, Nat.add_zero]
  omega
theorem taken_inr {ls : List (Int × Int × Bool)} {m : Nat} (ins : Bool) (n : Nat) (hl : ls.length = m) (hm : m ≤ 16) : InR (-16) 16 (upto (takenAt ls ins) n) := fun k hk => by
  rw [upto_len] at hk
  rw [taken_at hk]
  have := taken_in ls k ins
  omega

set_option maxRecDepth 100000 in
set_option maxHeartbeats 4000000 in
theorem walk (A : Option Addr) (xs : List Int) (n c : Nat) (w : World) (hl : xs.length = n) (hm : n ≤ maxLen) (hc : n ≤ c) (hx : Bytes xs) (hr : Rd w A (flU xs)) :
    Calls Try.prog 14 #[.slice A n c] w (Ret w (.bool true)) := by
  unfold maxLen at hm
  by_cases hn : n ≤ 1048576
  rotate_left
  · go_enter Try.func14, Try.ntmps14
    go_wp2_with fail
    go_ret
    exact ⟨rfl, Below.refl _ _⟩
  go_enter Try.func14, Try.ntmps14
  go_wp2_with fail
  refine (DrawSeatsTaken_any _ xs _ _ _ hl hn hc hx hr).mono ?_
  rintro e w1 ⟨nn, ls, b1, m, c1, ins, rfl, n1, n6, hl1, m16, ho1, hb1⟩
  have Hl1 := hideIt hl1
  clear hl1
  cases hv : bValid nn ls
  · have Hv := hideIt hv
    clear hv
    go_wp2_with fail
    refine (implSeatsTaken_any _ _ _ _ _ _ _ Hl1.out (by omega) (Rd.of_own ho1)).mono ?_
    rw [Hv.out, seatsTaken_f Hv.out]
    rintro e w2 ⟨A2, c2, rfl, ho2, hb2⟩
    have b2 := hb1.trans (hb2.mono hb1.size)
    go_wp2_with fail
    refine (specSeatsTaken_any _ _ _ _ _ _ _ Hl1.out (by omega) ((Rd.of_own ho1).below hb2 (Nat.le_refl _))).mono ?_
    rw [Hv.out, seatsTaken_f Hv.out]
    rintro e w3 ⟨A3, c3, rfl, ho3, hb3⟩
    have b3 := b2.trans (hb3.mono b2.size)
    go_wp2_with fail
    refine (sameInts_any _ _ [] [] _ _ _ _ _ rfl rfl (Nat.zero_le _) (Nat.zero_le _) (Rd.nil _ _) (Rd.nil _ _)).mono ?_
    rintro e w4 ⟨rfl, hb4⟩
    have b4 := b3.trans (hb4.mono b3.size)
    go_wp2_with fail
    refine (sameInts_any _ _ [] [] _ _ _ _ _ rfl rfl (Nat.zero_le _) (Nat.zero_le _) (Rd.nil _ _) (Rd.nil _ _)).mono ?_
    rintro e w5 ⟨rfl, hb5⟩
    go_wp2
    go_ret
    exact ⟨rfl, b4.trans (hb5.mono b4.size)⟩
  · obtain ⟨q1, q2, q3, q4, q5⟩ := bValid_parts hv
    have Hv := hideIt hv
    have Hall := hideIt q4
    have Hspan := hideIt (show sum1 (upto (takenAt ls ins) nn) = spanTo ls ins nn from sum1_span ls ins (fun b hb => ⟨(allB_mem q4 b hb).1, (allB_mem q4 b hb).2.1⟩) nn)
    clear hv q4 q5
    have Hole := hideIt (upto_len (takenAt ls ins) nn)
    go_wp2_with fail
    refine (implSeatsTaken_any _ _ _ _ _ _ _ Hl1.out (by omega) (Rd.of_own ho1)).mono ?_
    rw [Hv.out, seatsTaken_t Hv.out, upto_len]
    rintro e w2 ⟨A2, c2, rfl, ho2, hb2⟩
    have b2 := hb1.trans (hb2.mono hb1.size)
    have ho12 := own_below ho1 hb2 (Nat.le_refl _)
    go_wp2_with fail
    refine (specSeatsTaken_any _ _ _ _ _ _ _ Hl1.out (by omega) (Rd.of_own ho12)).mono ?_
    rw [Hv.out, seatsTaken_t Hv.out, upto_len]
    rintro e w3 ⟨A3, c3, rfl, ho3, hb3⟩
    have b3 := b2.trans (hb3.mono b2.size)
    have ho13 := own_below ho12 hb3 (Nat.le_refl _)
    have ho23 := own_below ho2 hb3 (Nat.le_refl _)
    go_wp2_with fail
    refine (sameInts_any _ _ _ _ _ _ _ _ _ Hole.out Hole.out (by omega) (by omega) (Rd.of_own ho23) (Rd.of_own ho3)).mono ?_
    rw [decide_eq_true rfl]
    rintro e w4 ⟨rfl, hb4⟩
    have b4 := b3.trans (hb4.mono b3.size)
    have ho14 := own_below ho13 hb4 (Nat.le_refl _)
    have hs2 := Rd.of_own (own_below ho23 hb4 (Nat.le_refl _))
    clear ho1 ho12 ho13 ho2 ho23 ho3 hb1 hb2 hb3 hb4 b2 b3
    have B4 := hideIt b4
    clear b4
    go_wp2
    go_loopw [10, 11] (fun x i wr => ∃ (k : Nat) (z : Int), k ≤ m ∧ i = .int .i64 k ∧ x = .int .i64 z ∧ z + spanTo (ls.drop k) ins nn = spanTo ls ins nn ∧ 0 ≤ z ∧ z ≤ 7 * k ∧ Below w4.heap.size w4 wr) (fun _ i _ => m - (intOf i).toNat)
    case atStart => exact ⟨0, 0, by omega, rfl, rfl, by simp, by omega, by omega, Below.refl _ _⟩
    case round =>
      obtain ⟨k, z, hk, rfl, rfl, hrec, z0, z1, hbw⟩ := hrel
      have Hrec := hideIt hrec
      clear hrec
      by_cases hlt : k < m
      · have hlp : k < ls.length := by rw [Hl1.out]; exact hlt
        obtain ⟨hxx, hyy, hzz⟩ := rowB_a (own_below ho14 hbw (Nat.le_refl _)) hlp
        obtain ⟨p1, p2, p3⟩ := Hall.out k hlp
        have hst := spanTo_step ls ins nn k hlp
        rw [spanB_at ins ⟨p1, p2, p3⟩] at hst
        have hbn := World.block_lt_of_cell? wr _ hxx
        clear hlp
        obtain ⟨f, hf⟩ : ∃ f, aB ls k = f := ⟨_, rfl⟩
        obtain ⟨t, ht⟩ : ∃ f, bB ls k = f := ⟨_, rfl⟩
        obtain ⟨v, hv⟩ : ∃ f, cB ls k = f := ⟨_, rfl⟩
        rw [hf] at hxx hst p1 p2
        rw [ht] at hyy hst p2 p3
        rw [hv] at hzz hst
        clear hf ht hv
        by_cases c1 : v = ins
        · subst c1
          have Hst := hideIt (show spanTo (ls.drop k) v nn = (t - f) + spanTo (ls.drop (k + 1)) v nn by rw [hst, if_pos rfl])
          have w1' := IntWalk.i64_in (z + t) (by omega)
          have w2' := IntWalk.i64_in (z + t - f) (by omega)
          have hkm : (k : Int) < (m : Int) := by omega
          clear hst
          go_wp2
          go_quiet (fail)
          clear w1' w2'
          go_wp2
          go_roundw
          case rel => exact ⟨k + 1, z + t - f, by omega, by go_num, rfl, by rw [← Hrec.out, Hst.out]; omega, by omega, by omega, below_drewN hbw _⟩
          case measure => simp [intOf]; omega
        · have Hst := hideIt (show spanTo (ls.drop k) ins nn = spanTo (ls.drop (k + 1)) ins nn by rw [hst, if_neg c1]; omega)
          obtain rfl : v = !ins := by cases v <;> cases ins <;> simp_all
          clear hst c1
          cases ins
          all_goals
            go_wp2
            go_roundw
            case rel => exact ⟨k + 1, z, by omega, by go_num, rfl, by rw [← Hrec.out, Hst.out], by omega, by omega, hbw⟩
            case measure => simp [intOf]; omega
      · obtain rfl : k = m := by omega
        have hz : z = spanTo ls ins nn := by rw [← Hrec.out, List.drop_eq_nil_of_le (by rw [Hl1.out]; omega)]; simp [spanTo]
        have Hz := hideIt hz
        have ho15 := own_below ho14 hbw (Nat.le_refl _)
        have hs3 := hs2.below hbw (Nat.le_refl _)
        have b5 := B4.out.trans (hbw.mono B4.out.size)
        have hs5 := Rd.of_own ho15
        clear hz Hrec ho14 hs2 hbw
        obtain ⟨wz, hwz⟩ : ∃ x, x = wr := ⟨_, rfl⟩
        subst hwz
        go_wp2
        go_loopw [12] (fun i wr => ∃ (j : Nat), j ≤ nn ∧ i = .int .i64 j ∧ Below wz.heap.size wz wr) (fun i _ => nn - (intOf i).toNat)
        case atStart => exact ⟨0, by omega, rfl, Below.refl _ _⟩
        case round =>
          obtain ⟨j, hj, rfl, hbw⟩ := hrel
          by_cases hlt : j < nn
          · have hku : j < (upto (takenAt ls ins) nn).length := by rw [upto_len]; exact hlt
            obtain ⟨b, off, hbe, hb, hcc⟩ := (hs3.below hbw (Nat.le_refl _)).at1 hku
            cases hbe
            have hxx := hcc j hku
            rw [taken_at hlt] at hxx
            have ht := taken_in ls j ins
            rw [Hl1.out] at ht
            have Hfree := hideIt (free_one (ins := ins) Hv.out hlt)
            have hsi := seats_in ins
            have hrd := hs5.below hbw (Nat.le_refl _)
            obtain ⟨x, hx⟩ : ∃ f, taken ls j ins = f := ⟨_, rfl⟩
            rw [hx] at hxx ht Hfree
            have w1' := IntWalk.i64_in ((j : Int) + 1) (by omega)
            have w2' : IntKind.i64.wrap (x + (seats ins - x)) = seats ins := by rw [show x + (seats ins - x) = seats ins by omega]; exact IntWalk.i64_in _ (by omega)
            have hjn : (j : Int) < (nn : Int) := by omega
            clear hx hcc hku
            obtain ⟨wk, hwk⟩ : ∃ x, x = wr := ⟨_, rfl⟩
            subst hwk
            go_wp2
            go_region_held3 (fun w' => w'.cell? ⟨b, off + j, none⟩ = some (.int .i64 x) ∧ Below wk.heap.size wk w')
              (first
                | exact ⟨hxx, (Below.refl _ _).drew⟩
                | exact ⟨(B5.cell (p := ⟨b, off + j, none⟩) hb).trans hxx, B5⟩
                | (go_split_ands; exact ⟨by assumption, by assumption⟩))
              (first
                | (go_split_ands
                   go_at_call 21
                   refine (implSeatsFree_any _ _ _ _ _ _ _ _ _ Hl1.out (by omega) (hrd.below (by assumption) (Nat.le_refl _))).mono ?_
                   rw [Hfree.out]
                   rintro e w5 ⟨rfl, hb5⟩
                   have B5 := below_from (by assumption) hb5)
                | (go_split_ands
                   go_at_call 48
                   refine (lawsSeatsOf_any _ _).mono ?_
                   rintro e w6 ⟨rfl, rfl⟩))
            all_goals
              clear w1' w2'
              go_wp2
              go_roundw
              case rel => exact ⟨j + 1, by omega, by go_num, hbw.trans (B5.mono hbw.size)⟩
              case measure => simp [intOf]; omega
          · obtain rfl : j = nn := by omega
            have hs6 := hs3.below hbw (Nat.le_refl _)
            go_wp2_with fail
            refine (sumOf_any _ _ _ _ 16 _ Hole.out (by omega) hs6 (by omega) (taken_inr ins j Hl1.out m16)).mono ?_
            rw [Hspan.out, ← Hz.out]
            rintro e w7 ⟨rfl, rfl⟩
            go_wp2
            go_ret
            exact ⟨rfl, b5.trans (hbw.mono b5.size)⟩
end Go.Proofs.Ytmghlddpojeapaa.fnSeatsTaken

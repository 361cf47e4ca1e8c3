/- Walks: SeatsBest of the program. -/
import Derived.Test.YtpcmkegogcffiaaSt5
import Derived.Test.YtpcmkegogcffiaaBest
import Derived.Maps.AppendAt
import Derived.Deep.RegionHeld
namespace Go.Proofs.Ytpcmkegogcffiaa
open Go.RowKit

theorem info_int15 : (Try.prog.info? 3).map (fun i => (i.zero, i.size, i.bytes)) = some (some (.int .i64 0), 1, 8) := by kernel_rfl
def isIn (b : Int × Int × Bool) : Bool := b.2.2
theorem bB_le7 {n x y : Int} (h7 : n ≤ 7) (h : 0 ≤ x ∧ x < y ∧ y ≤ n) : 0 ≤ y ∧ y ≤ 7 := by omega
theorem isIn_at (ls : List (Int × Int × Bool)) (k : Nat) : isIn (ls.getD k (0, 0, false)) = cB ls k := rfl
theorem bestOk_is (n : Int) (ls : List (Int × Int × Bool)) : bestOk n ls = (bValid n ls && ls.all isIn) := rfl

set_option maxRecDepth 100000 in
set_option maxHeartbeats 4000000 in
theorem implSeatsBest_any (n : Int) (A : Option Addr) (ls : List (Int × Int × Bool)) (m cap : Nat) (w : World) (hl : ls.length = m) (hm : m ≤ 1048576) (hr : Rd w A (flB ls)) :
    Calls Try.prog 35 #[.int .i64 n, .slice A m cap] w (RetSB w 3 1 (seatsBest n ls).length (fl1 (seatsBest n ls)) (bestOk n ls)) := by
  obtain ⟨i0, hi, hz0, hz1, hz2⟩ := info_parts info_int15
  cases hv : bValid n ls
  · have hj : bestOk n ls = false := by rw [bestOk, hv]; rfl
    rw [seatsBest_f hj, hj]
    have Hv := hideIt hv
    clear hv hj
    go_enter Try.func35, Try.ntmps35
    go_wp2_with fail
    refine (implBookingsValid_any _ _ _ _ _ _ _ hl hm (hr.alloc _) Hv.out).mono ?_
    rintro e w1 ⟨rfl, hb1⟩
    go_wp2
    go_ret2
    exact ⟨_, _, rfl, own_below (own_empty w 3 1) hb1 (Nat.le_refl _), ((Below.refl _ _).alloc (Nat.le_refl _) _).trans (hb1.mono (by simp))⟩
  · obtain ⟨q1, q2, q3, q4, q5⟩ := bValid_parts hv
    have hje : bestOk n ls = ls.all isIn := by rw [bestOk_is, hv]; rfl
    have Hje := hideIt hje
    have Hv := hideIt hv
    have Hall := hideIt q4
    have Hl := hideIt hl
    rw [hl] at q3
    obtain ⟨R, hR⟩ : ∃ R, seatsBest n ls = R := ⟨_, rfl⟩
    obtain ⟨B, hB⟩ : ∃ B, bestOk n ls = B := ⟨_, rfl⟩
    rw [hR, hB]
    have HR := hideIt hR
    have HB := hideIt hB
    clear hv q4 q5 hl hje hR hB
    go_enter Try.func35, Try.ntmps35
    go_wp2_with fail
    refine (implBookingsValid_any _ _ _ _ _ _ _ Hl.out hm (hr.alloc _) Hv.out).mono ?_
    rintro e w1 ⟨rfl, hb1⟩
    have ho1 := own_below (own_empty w 3 1) hb1 (Nat.le_refl _)
    have hbw1 := ((Below.refl w.heap.size w).alloc (Nat.le_refl _) (.cells #[] 3)).trans (hb1.mono (by simp))
    have hr1 := hr.below hbw1 (Nat.le_refl _)
    clear hb1
    go_wp2
    go_loopw [21] (fun i wr => ∃ k : Nat, k ≤ m ∧ i = .int .i64 k ∧ (ls.drop k).all isIn = ls.all isIn ∧ Below w1.heap.size w1 wr) (fun i _ => m - (intOf i).toNat)
    case atStart => exact ⟨0, by omega, rfl, rfl, Below.refl _ _⟩
    case round =>
      obtain ⟨k, hk, rfl, hrec, hbw⟩ := hrel
      have Hrec := hideIt hrec
      clear hrec
      by_cases hlt : k < m
      · have hlp : k < ls.length := by rw [Hl.out]; exact hlt
        obtain ⟨b, off, rfl, hb, hc⟩ := hr1.atB hlp
        obtain ⟨hx, hy, hz⟩ := hc k hlp
        rw [← hbw.cell (p := ⟨b, off + k * 3, none⟩) hb] at hx
        rw [← hbw.cell (p := ⟨b, off + k * 3 + 1, none⟩) hb] at hy
        rw [← hbw.cell (p := ⟨b, off + k * 3 + 2, none⟩) hb] at hz
        have hst := all_step isIn ls k (0, 0, false) hlp
        rw [isIn_at] at hst
        clear hc hr hr1 hlp
        cases he : cB ls k
        · rw [he] at hz hst
          have Hst := hideIt hst
          clear he hst
          go_wp2
          go_ret2
          have hf : ls.all isIn = false := by rw [← Hrec.out, Hst.out]; rfl
          have hb' : bestOk n ls = false := by rw [Hje.out, hf]
          rw [← HR.out, ← HB.out, seatsBest_f hb', hb']
          have hbf := hbw.alloc hbw.size (.cells #[.int .i64 (aB ls k), .int .i64 (bB ls k), .bool false] 40)
          exact ⟨_, _, rfl, own_below ho1 hbf (Nat.le_refl _), hbw1.trans (hbf.mono hbw1.size)⟩
        · rw [he] at hz hst
          have Hst := hideIt hst
          clear he hst
          go_wp2
          go_roundw
          case rel => exact ⟨k + 1, by omega, by go_num, by rw [← Hrec.out, Hst.out, Bool.true_and], hbw.alloc hbw.size _⟩
          case measure => simp [intOf]; omega
      · obtain rfl : k = m := by omega
        have hf : ls.all isIn = true := by rw [← Hrec.out, List.drop_eq_nil_of_le (by rw [Hl.out]; omega)]; rfl
        have hb' : bestOk n ls = true := by rw [Hje.out, hf]
        have HR' := hideIt (show bestOut ls = R by rw [← HR.out, seatsBest_t hb'])
        obtain rfl : B = true := by rw [← HB.out, hb']
        have ho := own_below ho1 hbw (Nat.le_refl _)
        have hbo := hbw1.trans (hbw.mono hbw1.size)
        clear ho1 hbw1 hbw hr1 Hrec Hje hf hb' HR HB
        go_wp2
        go_loopw [6, 9] (fun o a wr => ∃ (S : List Int) (f q : Nat) (p : Int), a = .int .i64 p ∧ S ++ bestFrom ls f p = bestSeq ls ∧ 8 ≤ f + p ∧ 0 ≤ p ∧ p ≤ 7 ∧ q + f ≤ 8 ∧ wr.ownsRow w.heap.size 3 1 o q (fl1 S) ∧ Below w.heap.size w wr) (fun _ a _ => (8 - intOf a).toNat)
        case atStart => exact ⟨[], 8, 0, 0, rfl, rfl, by omega, by omega, by omega, by omega, ho, hbo⟩
        case round =>
          clear ho hbo
          obtain ⟨S, f, q, p, rfl, hseq, hf8, p0, p7, hq, hrow, hbw⟩ := hrel
          have Hseq := hideIt hseq
          clear hseq
          have hrr := hr.below hbw (Nat.le_refl _)
          have hsz := hbw.size
          go_wp2
          go_loopw [10, 32] (fun nx i wi => ∃ (j : Nat) (r : Int), j ≤ k ∧ i = .int .i64 j ∧ nx = .int .i64 r ∧ r = pickTo ls p j ∧ Below wr.heap.size wr wi) (fun _ i _ => k - (intOf i).toNat)
          case atStart => exact ⟨0, -1, by omega, rfl, rfl, rfl, Below.refl _ _⟩
          case round =>
            obtain ⟨j, r, hj, rfl, rfl, hr', hbi⟩ := hrel
            have hin := pickTo_in ls p j
            rw [← hr'] at hin
            obtain ⟨in1, in2⟩ := hin
            by_cases hlt : j < k
            · have hlp : j < ls.length := by rw [Hl.out]; exact hlt
              obtain ⟨b, off, rfl, hb, hc⟩ := hrr.atB hlp
              obtain ⟨hx, hy, hz⟩ := hc j hlp
              rw [← hbi.cell (p := ⟨b, off + j * 3, none⟩) hb] at hx
              rw [← hbi.cell (p := ⟨b, off + j * 3 + 1, none⟩) hb] at hy
              rw [← hbi.cell (p := ⟨b, off + j * 3 + 2, none⟩) hb] at hz
              by_cases g1 : p ≤ aB ls j
              · have d1 : decide (p ≤ aB ls j) = true := by simpa using g1
                by_cases g2 : r < 0
                · have d2 : decide (r < 0) = true := by simpa using g2
                  have Hs := hideIt (show pickTo ls p (j + 1) = j by rw [pickTo, ← hr', if_pos ⟨g1, .inl g2⟩])
                  have Hr := hideIt hr'
                  clear hc hrr hr' hr hlp
                  go_wp2
                  go_quiet (fail)
                  go_wp2
                  go_roundw
                  case rel => exact ⟨j + 1, j, by omega, by go_num, rfl, Hs.out.symm, below_drewN (hbi.alloc hbi.size _) _⟩
                  case measure => simp [intOf]; omega
                · have d2 : decide (r < 0) = false := by simpa using g2
                  obtain ⟨rr, rfl⟩ := Int.eq_ofNat_of_zero_le (show 0 ≤ r by omega)
                  have hlr : rr < ls.length := by rw [Hl.out]; omega
                  obtain ⟨_, hyr, _⟩ := hc rr hlr
                  rw [← hbi.cell (p := ⟨b, off + rr * 3 + 1, none⟩) hb] at hyr
                  have hrk : (rr : Int) < (k : Int) := by omega
                  have hya := (World.cell?_alloc_some _ ⟨b, off + rr * 3 + 1, none⟩ (.cells #[.int .i64 (aB ls j), .int .i64 (bB ls j), .bool (cB ls j)] 40) (by rw [hyr]; rfl)).trans hyr
                  by_cases g3 : bB ls j < bB ls rr
                  · have d3 : decide (bB ls j < bB ls rr) = true := by simpa using g3
                    have Hs := hideIt (show pickTo ls p (j + 1) = j by rw [pickTo, ← hr', if_pos ⟨g1, .inr (by rw [Int.toNat_natCast]; exact g3)⟩])
                    have Hr := hideIt hr'
                    clear hc hrr hr' hr hlp hlr
                    go_wp2
                    go_quiet (fail)
                    go_wp2
                    go_roundw
                    case rel => exact ⟨j + 1, j, by omega, by go_num, rfl, Hs.out.symm, below_drewN (hbi.alloc hbi.size _) _⟩
                    case measure => simp [intOf]; omega
                  · have d3 : decide (bB ls j < bB ls rr) = false := by simpa using g3
                    have Hs := hideIt (show pickTo ls p (j + 1) = rr by rw [pickTo, ← hr', if_neg (fun c => by rcases c.2 with c2 | c2; exact g2 c2; rw [Int.toNat_natCast] at c2; exact g3 c2)])
                    have Hr := hideIt hr'
                    clear hc hrr hr' hr hlp hlr
                    go_wp2
                    go_quiet (fail)
                    go_wp2
                    go_roundw
                    case rel => exact ⟨j + 1, rr, by omega, by go_num, rfl, Hs.out.symm, below_drewN (hbi.alloc hbi.size _) _⟩
                    case measure => simp [intOf]; omega
              · have d1 : decide (p ≤ aB ls j) = false := by simpa using g1
                have Hs := hideIt (show pickTo ls p (j + 1) = r by rw [pickTo, ← hr', if_neg (fun c => g1 c.1)])
                have Hr := hideIt hr'
                clear hc hrr hr' hr hlp
                go_wp2
                go_quiet (fail)
                go_wp2
                go_roundw
                case rel => exact ⟨j + 1, r, by omega, by go_num, rfl, Hs.out.symm, below_drewN (hbi.alloc hbi.size _) _⟩
                case measure => simp [intOf]; omega
            · obtain rfl : j = k := by omega
              have hr2 : r = pickTo ls p ls.length := by rw [hr', Hl.out]
              have hrow2 := own_below hrow hbi (Nat.le_refl _)
              have hbw2 := hbw.trans (hbi.mono hbw.size)
              have hr3 := hr.below hbw2 (Nat.le_refl _)
              obtain ⟨f, rfl⟩ : ∃ g, f = g + 1 := ⟨f - 1, by omega⟩
              by_cases g : r < 0
              · have hS : S = bestSeq ls := by rw [← Hseq.out, bestFrom, ← hr2, if_pos g, List.append_nil]
                have hSq : S.length = q := row_len enc1_len (by omega) hrow
                have HS := hideIt hS
                have HSq := hideIt hSq
                clear hr' hr2 hS hSq hrow hbw hbi hrr
                obtain ⟨A', c', rfl⟩ := own_form hrow2
                go_wp2_with fail
                refine (sort_any _ _ _ _ _ _ HSq.out (by omega) hrow2).mono ?_
                rintro e w5 ⟨rfl, ys, hp, hasc, ho5, hg5⟩
                have hys := best_sorted Hall.out (by rw [← HS.out]; exact HSq.out) (by rw [← HS.out]; exact hp) hasc
                rw [hys, HR'.out] at ho5
                have hRq : R.length = q := row_len enc1_len (by omega) ho5
                have HRq := hideIt hRq
                clear hRq hys hasc hp
                go_wp2
                go_ret2
                rw [HRq.out]
                exact ⟨_, _, rfl, ho5, hbw2.grown hg5 hbw2.size (fun i hi => (hrow2.lt i hi).1)⟩
              · obtain ⟨rr, rfl⟩ := Int.eq_ofNat_of_zero_le (show 0 ≤ r by omega)
                have hlr : rr < ls.length := by rw [Hl.out]; omega
                obtain ⟨b, off, rfl, hb, hc⟩ := hr.atB hlr
                obtain ⟨_, hyr, _⟩ := hc rr hlr
                have hrk : (rr : Int) < (j : Int) := by omega
                have hseq2 : (S ++ [(rr : Int)]) ++ bestFrom ls f (bB ls rr) = bestSeq ls := by rw [← Hseq.out, bestFrom, ← hr2, if_neg g, List.append_assoc, Int.toNat_natCast]; rfl
                have hpa : p ≤ aB ls rr := by
                  rcases pickTo_spec ls p ls.length with ⟨g1, _⟩ | ⟨z, g1, g2, g3, _⟩
                  · omega
                  · have : z = rr := by omega
                    subst this; exact g3
                have hab := Hall.out rr hlr
                have Hseq2 := hideIt hseq2
                obtain ⟨hb2, hb3⟩ := bB_le7 q2 hab
                clear hr' hr2 hseq2 hrow hbw hbi hrr hc hlr hr hr3
                go_wp2_with (((at_builtin; refine wpList_append_own _ rfl (.tmp 59) (.tmp 61) 26 rfl w.heap.size 3 i0 _ 1 8 Try.underlying26 hi hz0 hz1 hz2 rfl (by decide) _ _ _ rfl (hrow2.alloc _) ⟨_, 0, none⟩ 1 1 [.int .i64 ((rr : Int))] rfl rfl (cell_one_new _ _ _) (by simp [Value.oneCell']) (by unfold maxLen; omega) (by omega) ((by have := hbw2.size; simp; omega)) ?_; intro v' wn hown' hgrow hnn; clear hnn)); have hfin := (hbw2.alloc hbw2.size (.cells #[.int .i64 (rr : Int)] 3)).grown hgrow (Nat.le_trans hbw2.size (by simp)) (fun g hg => (hrow2.lt g hg).1); have hcy := (hfin.cell (p := ⟨b, off + rr * 3 + 1, none⟩) hb).trans hyr; clear hgrow)
                go_roundw
                case rel => exact ⟨S ++ [(rr : Int)], f, q + 1, bB ls rr, rfl, Hseq2.out, by omega, by omega, by omega, by omega, by rw [fl1_snoc]; exact hown', hfin⟩
                case measure => simp [intOf]; omega
end Go.Proofs.Ytpcmkegogcffiaa

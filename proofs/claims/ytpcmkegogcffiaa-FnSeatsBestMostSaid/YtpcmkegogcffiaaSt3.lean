/- Walks: BookingsValid, of the program and of the reference. -/
import Derived.Test.YtpcmkegogcffiaaSt2
import Derived.Test.YtpcmkegogcffiaaL6
import Derived.Deep.QuietTactic
namespace Go.Proofs.Ytpcmkegogcffiaa
open Go.RowKit

theorem legsValid_any (n : Int) (w : World) (r : Bool) (hr : (decide (1 ≤ n) && decide (n ≤ 7)) = r) :
    Calls Try.prog 73 #[.int .i64 n] w fun e w' => e = .returned (.bool r) ∧ w = w' := by
  subst hr
  go_enter Try.func73, Try.ntmps73
  go_wp2
  all_goals go_ret
  all_goals exact ⟨ret_bool (by simp; try omega), rfl⟩
theorem stopsOrdered_any (n f t : Int) (w : World) (r : Bool) (hr : bOk n (f, t, false) = r) :
    Calls Try.prog 54 #[.int .i64 n, .int .i64 f, .int .i64 t] w fun e w' => e = .returned (.bool r) ∧ w = w' := by
  subst hr
  go_enter Try.func54, Try.ntmps54
  go_wp2
  all_goals go_ret
  all_goals exact ⟨ret_bool (by simp [bOk]; try omega), rfl⟩

set_option maxHeartbeats 1000000 in
theorem implBookingsValid_any (n : Int) (A : Option Addr) (ls : List (Int × Int × Bool)) (m cap : Nat) (w : World) (r : Bool) (hl : ls.length = m) (hm : m ≤ 1048576) (hr : Rd w A (flB ls)) (hv : bValid n ls = r) :
    Calls Try.prog 50 #[.int .i64 n, .slice A m cap] w (Ret w (.bool r)) := by
  by_cases h1 : n < 1 ∨ 7 < n
  · have hd : (decide (1 ≤ n) && decide (n ≤ 7)) = false := by simp; omega
    obtain rfl : r = false := by rw [← hv, bValid_n h1]
    have Hd := hideIt hd
    clear hv h1 hd
    go_enter Try.func50, Try.ntmps50
    go_wp2_with (go_at_call 73; refine (legsValid_any _ _ false Hd.out).mono ?_; rintro e w' ⟨rfl, rfl⟩)
    go_ret
    exact ⟨rfl, Below.refl _ _⟩
  have hd : (decide (1 ≤ n) && decide (n ≤ 7)) = true := by simp; omega
  have Hd := hideIt hd
  clear hd
  by_cases h2 : 16 < m
  · have hv' : false = r := by rw [← hv, bValid_len (by rw [hl]; exact h2)]
    have Hv' := hideIt hv'
    clear hv hv' h1
    go_enter Try.func50, Try.ntmps50
    go_wp2_with (go_at_call 73; refine (legsValid_any _ _ true Hd.out).mono ?_; rintro e w' ⟨rfl, rfl⟩)
    go_ret
    exact ⟨ret_bool Hv'.out, Below.refl _ _⟩
  obtain ⟨nn, rfl⟩ := Int.eq_ofNat_of_zero_le (show 0 ≤ n by omega)
  have n1 : 1 ≤ nn := by omega
  have n7 : nn ≤ 7 := by omega
  have m16 : m ≤ 16 := by omega
  have hrest : ls.all (bOk nn) = true → fromLeg ls nn 0 = r := fun h => by
    rw [fromLeg_zero, ← hv, bValid_rest (by omega) (by omega) (by omega) h]; simp
  have hno : ls.all (bOk nn) = false → false = r := fun h => by rw [← hv, bValid_all h]
  have Hl := hideIt hl
  have Hrest : Hid (ls.all (bOk nn) = true → fromLeg ls nn 0 = r) := hrest
  have Hno : Hid (ls.all (bOk nn) = false → false = r) := hno
  clear hl hv h1 h2 hrest hno
  go_enter Try.func50, Try.ntmps50
  go_wp2_with (go_at_call 73; refine (legsValid_any _ _ true Hd.out).mono ?_; rintro e w' ⟨rfl, rfl⟩)
  go_loopw [18] (fun i wr => ∃ k : Nat, k ≤ m ∧ i = .int .i64 k ∧ (ls.drop k).all (bOk nn) = ls.all (bOk nn) ∧ Below w.heap.size w wr) (fun i _ => m - (intOf i).toNat)
  case atStart => exact ⟨0, by omega, rfl, rfl, Below.refl _ _⟩
  case round =>
    obtain ⟨k, hk, rfl, hrec, hbw⟩ := hrel
    have Hrec := hideIt hrec
    clear hrec
    by_cases hlt : k < m
    · have hlp : k < ls.length := by rw [Hl.out]; exact hlt
      obtain ⟨b, off, rfl, hb, hc⟩ := hr.atB hlp
      obtain ⟨hx, hy, hz⟩ := hc k hlp
      rw [← hbw.cell (p := ⟨b, off + k * 3, none⟩) hb] at hx
      rw [← hbw.cell (p := ⟨b, off + k * 3 + 1, none⟩) hb] at hy
      rw [← hbw.cell (p := ⟨b, off + k * 3 + 2, none⟩) hb] at hz
      have Hst := hideIt (all_step (bOk nn) ls k (0, 0, false) hlp)
      clear hc hr hlp
      cases he : bOk nn (ls.getD k (0, 0, false))
      · have He := hideIt he
        clear he
        go_wp2_with (go_at_call 54; refine (stopsOrdered_any _ _ _ _ false He.out).mono ?_; rintro e w' ⟨rfl, rfl⟩)
        go_ret
        exact ⟨ret_bool (Hno.out (by rw [← Hrec.out, Hst.out, He.out]; rfl)), hbw.alloc hbw.size _⟩
      · have He := hideIt he
        clear he
        go_wp2_with (go_at_call 54; refine (stopsOrdered_any _ _ _ _ true He.out).mono ?_; rintro e w' ⟨rfl, rfl⟩)
        go_roundw
        case rel => exact ⟨k + 1, by omega, by go_num, by rw [← Hrec.out, Hst.out, He.out, Bool.true_and], hbw.alloc hbw.size _⟩
        case measure => simp [intOf]; omega
    · obtain rfl : k = m := by omega
      have hall : ls.all (bOk nn) = true := by rw [← Hrec.out, List.drop_eq_nil_of_le (by rw [Hl.out]; omega)]; rfl
      have hAll := hideIt (AllB.mono (allB_of hall) (show (nn : Int) ≤ 8 by omega))
      have Hr := hideIt (Hrest.out hall)
      clear hall Hrec Hrest Hno
      go_wp2
      go_loopw [31] (fun i wr => ∃ j : Nat, j ≤ nn ∧ i = .int .i64 j ∧ fromLeg ls nn j = r ∧ Below w.heap.size w wr) (fun i _ => nn - (intOf i).toNat)
      case atStart => exact ⟨0, by omega, rfl, Hr.out, hbw⟩
      case round =>
        clear hbw
        obtain ⟨j, hj, rfl, hrec, hbw⟩ := hrel
        have Hrec := hideIt hrec
        clear hrec
        by_cases hlt : j < nn
        · have Hst := hideIt (fromLeg_step ls nn j hlt)
          have ht1 := taken_in ls j true
          have ht2 := taken_in ls j false
          rw [Hl.out] at ht1 ht2
          by_cases g1 : taken ls j true ≤ 4
          · by_cases g2 : taken ls j false ≤ 6
            · have hlg : legOk ls j = true := by simp [legOk, g1, g2]
              have Hlg := hideIt hlg
              clear hlg
              go_wp2_with fail
              refine (takenOn_any _ _ _ _ _ _ _ Hl.out (by omega) (hr.below hbw (Nat.le_refl _)) hAll.out (by omega)).mono ?_
              rintro e w2 ⟨rfl, hb2⟩
              have hbw2 := hbw.trans (hb2.mono hbw.size)
              go_wp2_with fail
              refine (takenOn_any _ _ _ _ _ _ _ Hl.out (by omega) (hr.below hbw2 (Nat.le_refl _)) hAll.out (by omega)).mono ?_
              rintro e w3 ⟨rfl, hb3⟩
              have hbw3 := hbw2.trans (hb3.mono hbw2.size)
              go_wp2
              go_roundw
              case rel => exact ⟨j + 1, by omega, by go_num, by rw [← Hrec.out, Hst.out, Hlg.out, Bool.true_and], hbw3⟩
              case measure => simp [intOf]; omega
            · have hlg : legOk ls j = false := by simp [legOk, g2]
              have Hlg := hideIt hlg
              clear hlg
              go_wp2_with fail
              refine (takenOn_any _ _ _ _ _ _ _ Hl.out (by omega) (hr.below hbw (Nat.le_refl _)) hAll.out (by omega)).mono ?_
              rintro e w2 ⟨rfl, hb2⟩
              have hbw2 := hbw.trans (hb2.mono hbw.size)
              go_wp2_with fail
              refine (takenOn_any _ _ _ _ _ _ _ Hl.out (by omega) (hr.below hbw2 (Nat.le_refl _)) hAll.out (by omega)).mono ?_
              rintro e w3 ⟨rfl, hb3⟩
              have hbw3 := hbw2.trans (hb3.mono hbw2.size)
              go_wp2
              go_ret
              exact ⟨ret_bool (by rw [← Hrec.out, Hst.out, Hlg.out]; rfl), hbw3⟩
          · have hlg : legOk ls j = false := by simp [legOk, g1]
            have Hlg := hideIt hlg
            clear hlg
            go_wp2_with fail
            refine (takenOn_any _ _ _ _ _ _ _ Hl.out (by omega) (hr.below hbw (Nat.le_refl _)) hAll.out (by omega)).mono ?_
            rintro e w2 ⟨rfl, hb2⟩
            have hbw2 := hbw.trans (hb2.mono hbw.size)
            go_wp2
            go_ret
            exact ⟨ret_bool (by rw [← Hrec.out, Hst.out, Hlg.out]; rfl), hbw2⟩
        · go_wp2
          go_ret
          exact ⟨ret_bool (by rw [← Hrec.out, fromLeg_end ls nn j (by omega)]), hbw⟩
end Go.Proofs.Ytpcmkegogcffiaa

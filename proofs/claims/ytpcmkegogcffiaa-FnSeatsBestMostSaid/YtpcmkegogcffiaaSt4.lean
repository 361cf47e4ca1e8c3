/- Walks: BookingsValid of the reference. -/
import Derived.Test.YtpcmkegogcffiaaSt2
import Derived.Test.YtpcmkegogcffiaaL6
import Derived.Deep.QuietTactic
import Derived.BigQuiet
namespace Go.Proofs.Ytpcmkegogcffiaa
open Go.RowKit

set_option maxHeartbeats 1000000 in
theorem specBookingsValid_any (n : Int) (A : Option Addr) (ls : List (Int × Int × Bool)) (m cap : Nat) (w : World) (r : Bool) (hl : ls.length = m) (hm : m ≤ 1048576) (hr : Rd w A (flB ls)) (hv : bValid n ls = r) :
    Calls Try.prog 52 #[.int .i64 n, .slice A m cap] w (Ret w (.bool r)) := by
  by_cases h1 : n < 1 ∨ 7 < n
  · obtain rfl : r = false := by rw [← hv, bValid_n h1]
    clear hv
    go_enter Try.func52, Try.ntmps52
    go_wp2_with (go_at_call 57; refine (l6In_f _ _ _ _ (by omega)).mono ?_; rintro e w' ⟨rfl, rfl⟩)
    go_ret
    exact ⟨rfl, Below.refl _ _⟩
  by_cases h2 : 16 < m
  · obtain rfl : r = false := by rw [← hv, bValid_len (by rw [hl]; exact h2)]
    clear hv
    go_enter Try.func52, Try.ntmps52
    go_wp2_with (go_at_call 57; refine (l6In_t _ _ _ _ (by omega) (by omega)).mono ?_; rintro e w' ⟨rfl, rfl⟩)
    go_ret
    exact ⟨rfl, Below.refl _ _⟩
  obtain ⟨nn, rfl⟩ := Int.eq_ofNat_of_zero_le (show 0 ≤ n by omega)
  have n1 : 1 ≤ nn := by omega
  have n7 : nn ≤ 7 := by omega
  have m16 : m ≤ 16 := by omega
  have hrest : ls.all (bOk nn) = true → fromLeg ls nn 0 = r := fun h => by
    rw [fromLeg_zero, ← hv, bValid_rest (by omega) (by omega) (by omega) h]; simp
  have hno : ls.all (bOk nn) = false → false = r := fun h => by rw [← hv, bValid_all h]
  have Hl := hideIt hl
  have Hrest : Hid (ls.all (bOk nn) = true → fromLeg ls nn 0 = r) := hrest
  have Hno : Hid (ls.all (bOk nn) = false → false = r) := hno
  clear hl hv h1 h2 hrest hno
  go_enter Try.func52, Try.ntmps52
  go_wp2_with (go_at_call 57; refine (l6In_t _ _ _ _ (by omega) (by omega)).mono ?_; rintro e w' ⟨rfl, rfl⟩)
  go_loopw [5] (fun i wr => ∃ k : Nat, k ≤ m ∧ i = .int .i64 k ∧ (ls.drop k).all (bOk nn) = ls.all (bOk nn) ∧ Below w.heap.size w wr) (fun i _ => m - (intOf i).toNat)
  case atStart => exact ⟨0, by omega, rfl, rfl, Below.refl _ _⟩
  case round =>
    obtain ⟨k, hk, rfl, hrec, hbw⟩ := hrel
    have Hrec := hideIt hrec
    clear hrec
    by_cases hlt : k < m
    · have hlp : k < ls.length := by rw [Hl.out]; exact hlt
      obtain ⟨b, off, rfl, hb, hc⟩ := hr.atB hlp
      obtain ⟨hx, hy, hz⟩ := hc k hlp
      rw [← hbw.cell (p := ⟨b, off + k * 3, none⟩) hb] at hx
      rw [← hbw.cell (p := ⟨b, off + k * 3 + 1, none⟩) hb] at hy
      have Hst := hideIt (all_step (bOk nn) ls k (0, 0, false) hlp)
      rw [bOk_at] at Hst
      clear hc hr hlp hz
      obtain ⟨x, hxx⟩ : ∃ x, aB ls k = x := ⟨_, rfl⟩
      obtain ⟨y, hyy⟩ : ∃ x, bB ls k = x := ⟨_, rfl⟩
      rw [hxx] at hx Hst
      rw [hyy] at hy Hst
      clear hxx hyy
      cases he : bOk nn (x, y, false)
      · have He := hideIt he
        have hf : x < 0 ∨ y ≤ x ∨ (nn : Int) < y := by
          simp only [bOk, Bool.and_eq_false_iff, decide_eq_false_iff_not] at he
          omega
        clear he
        have Hret := hideIt (Hno.out (by rw [← Hrec.out, Hst.out, He.out]; rfl))
        by_cases g : x < 0 ∨ (nn : Int) - 1 < x
        · go_wp2
          go_quiet ((go_at_call 57; first | exact Calls.quiet_of_same (l6In_qt _ _ _ _ (by omega) (by omega)) | exact Calls.quiet_of_same (l6In_qf _ _ _ _ (by omega))))
          go_wp2
          go_ret
          exact ⟨ret_bool Hret.out, below_drewN hbw _⟩
        · go_wp2
          go_quiet ((go_at_call 57; first | exact Calls.quiet_of_same (l6In_qt _ _ _ _ (by omega) (by omega)) | exact Calls.quiet_of_same (l6In_qf _ _ _ _ (by omega))))
          go_wp2
          go_ret
          exact ⟨ret_bool Hret.out, below_drewN hbw _⟩
      · have He := hideIt he
        have hf : 0 ≤ x ∧ x < y ∧ y ≤ nn := by
          simp only [bOk, Bool.and_eq_true, decide_eq_true_eq] at he
          omega
        obtain ⟨f1, f2, f3⟩ := hf
        clear he
        go_wp2
        go_quiet ((go_at_call 57; first | exact Calls.quiet_of_same (l6In_qt _ _ _ _ (by omega) (by omega)) | exact Calls.quiet_of_same (l6In_qf _ _ _ _ (by omega))))
        go_wp2
        go_roundw
        case rel => exact ⟨k + 1, by omega, by go_num, by rw [← Hrec.out, Hst.out, He.out, Bool.true_and], below_drewN hbw _⟩
        case measure => simp [intOf]; omega
    · obtain rfl : k = m := by omega
      have hall : ls.all (bOk nn) = true := by rw [← Hrec.out, List.drop_eq_nil_of_le (by rw [Hl.out]; omega)]; rfl
      have Hr := hideIt (Hrest.out hall)
      clear hall Hrec Hrest Hno
      go_wp2
      go_loopw [6] (fun i wr => ∃ j : Nat, j ≤ nn ∧ i = .int .i64 j ∧ fromLeg ls nn j = r ∧ Below w.heap.size w wr) (fun i _ => nn - (intOf i).toNat)
      case atStart => exact ⟨0, by omega, rfl, Hr.out, hbw⟩
      case round =>
        clear hbw
        obtain ⟨j, hj, rfl, hrec, hbw⟩ := hrel
        have Hrec := hideIt hrec
        clear hrec
        by_cases hlt : j < nn
        · have Hst := hideIt (fromLeg_step ls nn j hlt)
          have ht1 := taken_in ls j true
          have ht2 := taken_in ls j false
          rw [Hl.out] at ht1 ht2
          by_cases g1 : taken ls j true ≤ 4
          · by_cases g2 : taken ls j false ≤ 6
            · have hlg : legOk ls j = true := by simp [legOk, g1, g2]
              have Hlg := hideIt hlg
              clear hlg
              go_wp2_with fail
              refine (l4Taken_any _ _ _ _ _ _ _ Hl.out (by omega) (hr.below hbw (Nat.le_refl _))).mono ?_
              rintro e w2 ⟨rfl, rfl⟩
              go_wp2_with fail
              refine (l4Taken_any _ _ _ _ _ _ _ Hl.out (by omega) (hr.below hbw (Nat.le_refl _))).mono ?_
              rintro e w3 ⟨rfl, rfl⟩
              go_wp2
              go_roundw
              case rel => exact ⟨j + 1, by omega, by go_num, by rw [← Hrec.out, Hst.out, Hlg.out, Bool.true_and], hbw⟩
              case measure => simp [intOf]; omega
            · have hlg : legOk ls j = false := by simp [legOk, g2]
              have Hlg := hideIt hlg
              clear hlg
              go_wp2_with fail
              refine (l4Taken_any _ _ _ _ _ _ _ Hl.out (by omega) (hr.below hbw (Nat.le_refl _))).mono ?_
              rintro e w2 ⟨rfl, rfl⟩
              go_wp2_with fail
              refine (l4Taken_any _ _ _ _ _ _ _ Hl.out (by omega) (hr.below hbw (Nat.le_refl _))).mono ?_
              rintro e w3 ⟨rfl, rfl⟩
              go_wp2
              go_ret
              exact ⟨ret_bool (by rw [← Hrec.out, Hst.out, Hlg.out]; rfl), hbw⟩
          · have hlg : legOk ls j = false := by simp [legOk, g1]
            have Hlg := hideIt hlg
            clear hlg
            go_wp2_with fail
            refine (l4Taken_any _ _ _ _ _ _ _ Hl.out (by omega) (hr.below hbw (Nat.le_refl _))).mono ?_
            rintro e w2 ⟨rfl, rfl⟩
            go_wp2
            go_ret
            exact ⟨ret_bool (by rw [← Hrec.out, Hst.out, Hlg.out]; rfl), hbw⟩
        · go_wp2
          go_ret
          exact ⟨ret_bool (by rw [← Hrec.out, fromLeg_end ls nn j (by omega)]), hbw⟩
end Go.Proofs.Ytpcmkegogcffiaa

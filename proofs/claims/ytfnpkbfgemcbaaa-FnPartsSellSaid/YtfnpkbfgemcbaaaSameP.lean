/- Walks: sameParts of the laws. -/
import Derived.Test.YtfnpkbfgemcbaaaPa2
import Derived.BigQuiet
namespace Go.Proofs.Ytfnpkbfgemcbaaa
open Go.RowKit

set_option maxHeartbeats 400000 in
theorem sameParts_any (A B : Option Addr) (ps qs : List (Int × Int)) (n m cap cap' : Nat) (w : World) (hl : ps.length = n) (hl' : qs.length = m) (hn : n ≤ 1048576) (hm : m ≤ 1048576) (hr : Rd w A (fl2 ps)) (hs : Rd w B (fl2 qs)) :
    Calls Try.prog 19 #[.slice A n cap, .slice B m cap'] w (Ret w (.bool (decide (ps = qs)))) := by
  subst hl
  subst hl'
  by_cases hne : ps.length = qs.length
  · rw [← hne]
    rw [← hne] at hm
    go_enter Try.func19, Try.ntmps19
    go_wp2
    go_loopw [5] (fun i wr => ∃ k : Nat, k ≤ ps.length ∧ i = .int .i64 k ∧ decide (ps.drop k = qs.drop k) = decide (ps = qs) ∧ Below w.heap.size w wr) (fun i _ => ps.length - (intOf i).toNat)
    case atStart => exact ⟨0, by omega, rfl, rfl, Below.refl _ _⟩
    case round =>
      obtain ⟨k, hk, rfl, hrec, hbw⟩ := hrel
      have Hrec := hideIt hrec
      have Hne := hideIt hne
      clear hrec hne
      by_cases hlt : k < ps.length
      · obtain ⟨b, off, rfl, hb, hc⟩ := hr.at2 hlt
        obtain ⟨b', off', rfl, hb', hc'⟩ := hs.at2 (k := k) (by rw [← Hne.out]; exact hlt)
        obtain ⟨hx, hy⟩ := hc k hlt
        obtain ⟨hx', hy'⟩ := hc' k (by rw [← Hne.out]; exact hlt)
        rw [← hbw.cell (p := ⟨b, off + k * 2, none⟩) hb] at hx
        rw [← hbw.cell (p := ⟨b, off + k * 2 + 1, none⟩) hb] at hy
        rw [← hbw.cell (p := ⟨b', off' + k * 2, none⟩) hb'] at hx'
        rw [← hbw.cell (p := ⟨b', off' + k * 2 + 1, none⟩) hb'] at hy'
        have hst := hideIt (eq_step2 ps qs k hlt (by rw [← Hne.out]; exact hlt))
        clear hc hc' hr hs
        by_cases ha : a2 ps k = a2 qs k
        · by_cases hb2 : b2 ps k = b2 qs k
          · have He := hideIt (show (decide (a2 ps k = a2 qs k) && decide (b2 ps k = b2 qs k)) = true by simp [ha, hb2])
            go_wp2
            go_quiet (fail)
            go_wp2
            go_roundw
            case rel => exact ⟨k + 1, by omega, by go_num, by rw [← Hrec.out, hst.out, He.out, Bool.true_and], below_drewN hbw _⟩
            case measure => simp [intOf]; omega
          · have He := hideIt (show (decide (a2 ps k = a2 qs k) && decide (b2 ps k = b2 qs k)) = false by simp [hb2])
            go_wp2
            go_quiet (fail)
            go_wp2
            go_ret
            exact ⟨ret_bool (by rw [← Hrec.out, hst.out, He.out, Bool.false_and]), below_drewN hbw _⟩
        · have He := hideIt (show (decide (a2 ps k = a2 qs k) && decide (b2 ps k = b2 qs k)) = false by simp [ha])
          go_wp2
          go_quiet (fail)
          go_wp2
          go_ret
          exact ⟨ret_bool (by rw [← Hrec.out, hst.out, He.out, Bool.false_and]), below_drewN hbw _⟩
      · go_wp2
        go_ret
        obtain rfl : k = ps.length := by omega
        refine ⟨ret_bool ?_, hbw⟩
        rw [← Hrec.out]
        simp [Hne.out]
  · have hne' : ((ps.length : Int) == (qs.length : Int)) = false := by simp; omega
    go_enter Try.func19, Try.ntmps19
    go_wp2
    go_ret
    refine ⟨ret_bool ?_, Below.refl _ _⟩
    rw [eq_comm]
    simp
    rintro rfl
    exact hne rfl

end Go.Proofs.Ytfnpkbfgemcbaaa

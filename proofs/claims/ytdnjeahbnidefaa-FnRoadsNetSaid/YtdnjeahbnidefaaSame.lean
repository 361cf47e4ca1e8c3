/- Walks: sameInts, sumOf of the laws. -/
import Derived.Test.YtdnjeahbnidefaaGA
import Derived.BigQuiet
namespace Go.Proofs.Ytdnjeahbnidefaa
open Go.RowKit

set_option maxHeartbeats 400000 in
theorem sameInts_any (A B : Option Addr) (ps qs : List Int) (n m cap cap' : Nat) (w : World) (hl : ps.length = n) (hl' : qs.length = m) (hn : n ≤ 1048576) (hm : m ≤ 1048576) (hr : Rd w A (fl1 ps)) (hs : Rd w B (fl1 qs)) :
    Calls Try.prog 12 #[.slice A n cap, .slice B m cap'] w (Ret w (.bool (decide (ps = qs)))) := by
  subst hl
  subst hl'
  by_cases hne : ps.length = qs.length
  · rw [← hne]
    rw [← hne] at hm
    go_enter Try.func12, Try.ntmps12
    go_wp2
    go_loopw [5] (fun i wr => ∃ k : Nat, k ≤ ps.length ∧ i = .int .i64 k ∧ decide (ps.drop k = qs.drop k) = decide (ps = qs) ∧ Below w.heap.size w wr) (fun i _ => ps.length - (intOf i).toNat)
    case atStart => exact ⟨0, by omega, rfl, rfl, Below.refl _ _⟩
    case round =>
      obtain ⟨k, hk, rfl, hrec, hbw⟩ := hrel
      have Hrec := hideIt hrec
      have Hne := hideIt hne
      clear hrec hne
      by_cases hlt : k < ps.length
      · obtain ⟨b, off, rfl, hb, hc⟩ := hr.at1 hlt
        obtain ⟨b', off', rfl, hb', hc'⟩ := hs.at1 (k := k) (by rw [← Hne.out]; exact hlt)
        have hx := (hbw.cell (p := ⟨b, off + k, none⟩) hb).trans (hc k hlt)
        have hx' := (hbw.cell (p := ⟨b', off' + k, none⟩) hb').trans (hc' k (by rw [← Hne.out]; exact hlt))
        have Hst := hideIt (eq_step1 ps qs k hlt (by rw [← Hne.out]; exact hlt))
        clear hc hc' hr hs
        cases he : decide (a1 ps k = a1 qs k)
        · have he' : (a1 ps k != a1 qs k) = true := by simpa using he
          have He := hideIt he
          clear he
          go_wp2
          go_quiet (fail)
          go_wp2
          go_ret
          exact ⟨ret_bool (by rw [← Hrec.out, Hst.out, He.out, Bool.false_and]), below_drewN hbw _⟩
        · have he' : (a1 ps k != a1 qs k) = false := by simpa using he
          have He := hideIt he
          clear he
          go_wp2
          go_quiet (fail)
          go_wp2
          go_roundw
          case rel => exact ⟨k + 1, by omega, by go_num, by rw [← Hrec.out, Hst.out, He.out, Bool.true_and], below_drewN hbw _⟩
          case measure => simp [intOf]; omega
      · go_wp2
        go_ret
        obtain rfl : k = ps.length := by omega
        refine ⟨ret_bool ?_, hbw⟩
        rw [← Hrec.out]
        simp [Hne.out]
  · have hne' : ((ps.length : Int) == (qs.length : Int)) = false := by simp; omega
    go_enter Try.func12, Try.ntmps12
    go_wp2
    go_ret
    refine ⟨ret_bool ?_, Below.refl _ _⟩
    rw [eq_comm]
    simp
    rintro rfl
    exact hne rfl

end Go.Proofs.Ytdnjeahbnidefaa

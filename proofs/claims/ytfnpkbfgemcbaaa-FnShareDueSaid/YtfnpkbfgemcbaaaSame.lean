/- Walks: sameInts, sumOf of the laws. -/
import Derived.Test.YtfnpkbfgemcbaaaL6
import Derived.Test.YtfnpkbfgemcbaaaParts
import Derived.BigQuiet
namespace Go.Proofs.Ytfnpkbfgemcbaaa
open Go.RowKit

set_option maxHeartbeats 400000 in
theorem sameInts_any (A B : Option Addr) (ps qs : List Int) (n m cap cap' : Nat) (w : World) (hl : ps.length = n) (hl' : qs.length = m) (hn : n ≤ 1048576) (hm : m ≤ 1048576) (hr : Rd w A (fl1 ps)) (hs : Rd w B (fl1 qs)) :
    Calls Try.prog 23 #[.slice A n cap, .slice B m cap'] w (Ret w (.bool (decide (ps = qs)))) := by
  subst hl
  subst hl'
  by_cases hne : ps.length = qs.length
  · rw [← hne]
    rw [← hne] at hm
    go_enter Try.func23, Try.ntmps23
    go_wp2
    go_loopw [5] (fun i wr => ∃ k : Nat, k ≤ ps.length ∧ i = .int .i64 k ∧ decide (ps.drop k = qs.drop k) = decide (ps = qs) ∧ Below w.heap.size w wr) (fun i _ => ps.length - (intOf i).toNat)
    case atStart => exact ⟨0, by omega, rfl, rfl, Below.refl _ _⟩
    case round =>
      obtain ⟨k, hk, rfl, hrec, hbw⟩ := hrel
      have Hrec := hideIt hrec
      have Hne := hideIt hne
      clear hrec hne
      by_cases hlt : k < ps.length
      · obtain ⟨b, off, rfl, hb, hc⟩ := hr.at1 hlt
        obtain ⟨b', off', rfl, hb', hc'⟩ := hs.at1 (k := k) (by rw [← Hne.out]; exact hlt)
        have hx := (hbw.cell (p := ⟨b, off + k, none⟩) hb).trans (hc k hlt)
        have hx' := (hbw.cell (p := ⟨b', off' + k, none⟩) hb').trans (hc' k (by rw [← Hne.out]; exact hlt))
        have Hst := hideIt (eq_step1 ps qs k hlt (by rw [← Hne.out]; exact hlt))
        clear hc hc' hr hs
        cases he : decide (a1 ps k = a1 qs k)
        · have he' : (a1 ps k != a1 qs k) = true := by simpa using he
          have He := hideIt he
          clear he
          go_wp2
          go_quiet (fail)
          go_wp2
          go_ret
          exact ⟨ret_bool (by rw [← Hrec.out, Hst.out, He.out, Bool.false_and]), below_drewN hbw _⟩
        · have he' : (a1 ps k != a1 qs k) = false := by simpa using he
          have He := hideIt he
          clear he
          go_wp2
          go_quiet (fail)
          go_wp2
          go_roundw
          case rel => exact ⟨k + 1, by omega, by go_num, by rw [← Hrec.out, Hst.out, He.out, Bool.true_and], below_drewN hbw _⟩
          case measure => simp [intOf]; omega
      · go_wp2
        go_ret
        obtain rfl : k = ps.length := by omega
        refine ⟨ret_bool ?_, hbw⟩
        rw [← Hrec.out]
        simp [Hne.out]
  · have hne' : ((ps.length : Int) == (qs.length : Int)) = false := by simp; omega
    go_enter Try.func23, Try.ntmps23
    go_wp2
    go_ret
    refine ⟨ret_bool ?_, Below.refl _ _⟩
    rw [eq_comm]
    simp
    rintro rfl
    exact hne rfl

set_option maxHeartbeats 400000 in
theorem sumOf_any (A : Option Addr) (xs : List Int) (n cap : Nat) (M : Int) (w : World) (hl : xs.length = n) (hn : n ≤ 1048576) (hr : Rd w A (fl1 xs)) (hM : M ≤ 1000000000000) (hin : InR (-M) M xs) :
    Calls Try.prog 34 #[.slice A n cap] w fun e w' => e = .returned (.int .i64 (sum1 xs)) ∧ w = w' := by
  have Hl := hideIt hl
  clear hl
  go_enter Try.func34, Try.ntmps34
  go_wp2
  go_loop [3, 4] (fun t i => ∃ (k : Nat) (s : Int), k ≤ n ∧ i = .int .i64 k ∧ t = .int .i64 s ∧ -(1000000000000 * k) ≤ s ∧ s ≤ 1000000000000 * k ∧ s + sum1 (xs.drop k) = sum1 xs) (fun _ i => n - (intOf i).toNat)
  case atStart => exact ⟨0, 0, by omega, rfl, rfl, by omega, by omega, by simp⟩
  case round =>
    obtain ⟨k, s, hk, rfl, rfl, h0, h1, hrec⟩ := hrel
    have Hrec := hideIt hrec
    clear hrec
    by_cases hlt : k < n
    · have hlp : k < xs.length := by rw [Hl.out]; exact hlt
      obtain ⟨b, off, rfl, hb, hc⟩ := hr.at1 hlp
      have hx := hc k hlp
      obtain ⟨f3, f4⟩ := hin k hlp
      have Hst := hideIt (sum1_step xs k hlp)
      clear hc hr hlp hin
      go_wp2
      go_round
      case rel => exact ⟨k + 1, s + a1 xs k, by omega, by go_num, by go_num, by omega, by omega, by rw [← Hrec.out, Hst.out]; omega⟩
      case measure => simp [intOf]; omega
    · go_wp2
      go_ret
      obtain rfl : k = n := by omega
      refine ⟨ret_int ?_, rfl⟩
      rw [← Hrec.out, List.drop_eq_nil_of_le (by rw [Hl.out]; omega)]
      simp [sum1]
end Go.Proofs.Ytfnpkbfgemcbaaa

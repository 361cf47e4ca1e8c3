/- Walks: hasInt of the laws. -/
import Derived.Test.YtdnjeahbnidefaaGA
import Derived.BigQuiet
namespace Go.Proofs.Ytdnjeahbnidefaa
open Go.RowKit

theorem mem_step (xs : List Int) (v : Int) (k : Nat) (h : k < xs.length) : decide (v ∈ xs.drop k) = (decide (a1 xs k = v) || decide (v ∈ xs.drop (k + 1))) := by
  rw [drop_at xs k 0 h]
  show decide (v ∈ a1 xs k :: xs.drop (k + 1)) = _
  by_cases h1 : a1 xs k = v
  · simp [h1]
  · simp [h1, Ne.symm h1]
set_option maxRecDepth 100000 in
set_option maxHeartbeats 1000000 in
theorem hasInt_any (A : Option Addr) (xs : List Int) (n cap : Nat) (v : Int) (w : World) (hl : xs.length = n) (hn : n ≤ 1048576) (hr : Rd w A (fl1 xs)) :
    Calls Try.prog 17 #[.slice A n cap, .int .i64 v] w fun e w' => e = .returned (.bool (decide (v ∈ xs))) ∧ w = w' := by
  have Hl := hideIt hl
  clear hl
  go_enter Try.func17, Try.ntmps17
  go_wp2
  go_loop [5] (fun i => ∃ k : Nat, k ≤ n ∧ i = .int .i64 k ∧ decide (v ∈ xs.drop k) = decide (v ∈ xs)) (fun i => n - (intOf i).toNat)
  case atStart => exact ⟨0, by omega, rfl, rfl⟩
  case round =>
    obtain ⟨k, hk, rfl, hrec⟩ := hrel
    have Hrec := hideIt hrec
    clear hrec
    by_cases hlt : k < n
    · have hlp : k < xs.length := by rw [Hl.out]; exact hlt
      obtain ⟨b, off, rfl, hb, hc⟩ := hr.at1 hlp
      have hx := hc k hlp
      have Hst := hideIt (mem_step xs v k hlp)
      clear hc hr hlp
      by_cases he : a1 xs k = v
      · have hd : (a1 xs k == v) = true := by simpa using he
        have He := hideIt he
        clear he
        go_wp2
        go_ret
        exact ⟨ret_bool (by rw [← Hrec.out, Hst.out, decide_eq_true He.out]; rfl), rfl⟩
      · have hd : (a1 xs k == v) = false := by simpa using he
        have He := hideIt he
        clear he
        go_wp2
        go_round
        case rel => exact ⟨k + 1, by omega, by go_num, by rw [← Hrec.out, Hst.out, decide_eq_false He.out, Bool.false_or]⟩
        case measure => simp [intOf]; omega
    · go_wp2
      go_ret
      obtain rfl : k = n := by omega
      refine ⟨ret_bool ?_, rfl⟩
      rw [← Hrec.out, List.drop_eq_nil_of_le (by rw [Hl.out]; omega)]
      simp
end Go.Proofs.Ytdnjeahbnidefaa

/- Walks: PartsValid, of the program and of the reference. -/
import Derived.Test.YtfnpkbfgemcbaaaPa1
import Derived.Test.YtfnpkbfgemcbaaaParts
namespace Go.Proofs.Ytfnpkbfgemcbaaa
open Go.RowKit

set_option maxHeartbeats 400000 in
theorem implPartsValid_any (A : Option Addr) (ps : List (Int × Int)) (n cap : Nat) (w : World) (r : Bool) (hl : ps.length = n) (hn : n ≤ 1048576) (hr : Rd w A (fl2 ps)) (hv : partsValid ps = r) :
    Calls Try.prog 48 #[.slice A n cap] w (Ret w (.bool r)) := by
  by_cases h1 : n < 1
  · go_enter Try.func48, Try.ntmps48
    go_wp2
    all_goals go_ret
    all_goals exact ⟨ret_bool (by rw [← hv]; simp [partsValid]; omega), Below.refl _ _⟩
  by_cases h2 : 12 < n
  · go_enter Try.func48, Try.ntmps48
    go_wp2
    all_goals go_ret
    all_goals exact ⟨ret_bool (by rw [← hv]; simp [partsValid]; omega), Below.refl _ _⟩
  have hall : ps.all pOk = r := by
    rw [← hv, partsValid, show decide (1 ≤ ps.length) = true by simp; omega, show decide (ps.length ≤ 12) = true by simp; omega]
    simp
  have Hl := hideIt hl
  have Hall := hideIt hall
  clear hl hall hv
  go_enter Try.func48, Try.ntmps48
  go_wp2
  go_loopw [15] (fun i wr => ∃ k : Nat, k ≤ n ∧ i = .int .i64 k ∧ (ps.drop k).all pOk = r ∧ Below w.heap.size w wr) (fun i _ => n - (intOf i).toNat)
  case atStart => exact ⟨0, by omega, rfl, Hall.out, Below.refl _ _⟩
  case round =>
    obtain ⟨k, hk, rfl, hrec, hbw⟩ := hrel
    have Hrec := hideIt hrec
    clear hrec
    by_cases hlt : k < n
    · have hlp : k < ps.length := by rw [Hl.out]; exact hlt
      obtain ⟨b, off, rfl, hb, hc⟩ := hr.at2 hlp
      obtain ⟨hx, hy⟩ := hc k hlp
      rw [← hbw.cell (p := ⟨b, off + k * 2, none⟩) hb] at hx
      rw [← hbw.cell (p := ⟨b, off + k * 2 + 1, none⟩) hb] at hy
      have Hst := hideIt (all_step pOk ps k (0, 0) hlp)
      clear hc hr
      cases he : pOk (ps.getD k (0, 0))
      · have hf := pOk_false he
        have He := hideIt he
        clear he hlp
        go_wp2
        all_goals go_ret
        all_goals exact ⟨ret_bool (by rw [← Hrec.out, Hst.out, He.out, Bool.false_and]), hbw.alloc hbw.size _⟩
      · obtain ⟨f1, f2, f3, f4⟩ := pOk_true he
        have He := hideIt he
        clear he hlp
        go_wp2
        go_roundw
        case rel => exact ⟨k + 1, by omega, by go_num, by rw [← Hrec.out, Hst.out, He.out, Bool.true_and], hbw.alloc hbw.size _⟩
        case measure => simp [intOf]; omega
    · go_wp2
      go_ret
      obtain rfl : k = n := by omega
      exact ⟨ret_bool (by rw [← Hrec.out, List.drop_eq_nil_of_le (by rw [Hl.out]; omega)]; rfl), hbw⟩

set_option maxHeartbeats 400000 in
theorem specPartsValid_any (A : Option Addr) (ps : List (Int × Int)) (n cap : Nat) (w : World) (r : Bool) (hl : ps.length = n) (hn : n ≤ 1048576) (hr : Rd w A (fl2 ps)) (hv : partsValid ps = r) :
    Calls Try.prog 39 #[.slice A n cap] w fun e w' => e = .returned (.bool r) ∧ w = w' := by
  have Hl := hideIt hl
  have Hv := hideIt hv
  clear hl hv
  go_enter Try.func39, Try.ntmps39
  go_wp2
  go_loop [3] (fun i => ∃ k : Nat, k ≤ n ∧ i = .int .i64 k ∧ (ps.drop k).all pOk = ps.all pOk) (fun i => n - (intOf i).toNat)
  case atStart => exact ⟨0, by omega, rfl, rfl⟩
  case round =>
    obtain ⟨k, hk, rfl, hrec⟩ := hrel
    have Hrec := hideIt hrec
    clear hrec
    by_cases hlt : k < n
    · have hlp : k < ps.length := by rw [Hl.out]; exact hlt
      obtain ⟨b, off, rfl, hb, hc⟩ := hr.at2 hlp
      obtain ⟨hx, hy⟩ := hc k hlp
      have Hst := hideIt (all_step pOk ps k (0, 0) hlp)
      clear hc hr
      cases he : pOk (ps.getD k (0, 0))
      · have hf := pOk_false he
        have He := hideIt he
        clear he hlp
        have Hret := hideIt (show ps.all pOk = false by rw [← Hrec.out, Hst.out, He.out, Bool.false_and])
        have Hv' := hideIt (show false = r by rw [← Hv.out, partsValid, Hret.out, Bool.and_false])
        by_cases ho : a2 ps k < 0 ∨ 5 < a2 ps k
        · go_wp2_with (go_at_call 36; first | (refine (l6In_t _ _ _ _ (by omega) (by omega)).mono ?_; rintro e w' ⟨rfl, rfl⟩) | (refine (l6In_f _ _ _ _ (by omega)).mono ?_; rintro e w' ⟨rfl, rfl⟩))
          go_ret
          exact ⟨ret_bool Hv'.out, rfl⟩
        · have g1 : 0 ≤ a2 ps k := by omega
          have g2 : a2 ps k ≤ 5 := by omega
          have g3 : b2 ps k < 1 ∨ 99 < b2 ps k := by omega
          clear hf ho
          go_wp2_with (go_at_call 36; first | (refine (l6In_t _ _ _ _ (by omega) (by omega)).mono ?_; rintro e w' ⟨rfl, rfl⟩) | (refine (l6In_f _ _ _ _ (by omega)).mono ?_; rintro e w' ⟨rfl, rfl⟩))
          go_ret
          exact ⟨ret_bool Hv'.out, rfl⟩
      · obtain ⟨f1, f2, f3, f4⟩ := pOk_true he
        have He := hideIt he
        clear he hlp
        go_wp2_with (go_at_call 36; first | (refine (l6In_t _ _ _ _ (by omega) (by omega)).mono ?_; rintro e w' ⟨rfl, rfl⟩) | (refine (l6In_f _ _ _ _ (by omega)).mono ?_; rintro e w' ⟨rfl, rfl⟩))
        go_round
        case rel => exact ⟨k + 1, by omega, by go_num, by rw [← Hrec.out, Hst.out, He.out, Bool.true_and]⟩
        case measure => simp [intOf]; omega
    · obtain rfl : k = n := by omega
      rw [List.drop_eq_nil_of_le (by rw [Hl.out]; omega)] at Hrec
      have Hlast : Hid ((decide ((1 : Int) ≤ (k : Int)) && decide ((k : Int) ≤ 12)) = r) := by
        show (decide ((1 : Int) ≤ (k : Int)) && decide ((k : Int) ≤ 12)) = r
        rw [← Hv.out, partsValid, ← Hrec.out, Hl.out, Bool.eq_iff_iff]
        simp
        omega
      go_wp2_with (go_at_call 36; refine (l6In_any _ _ _ _ r Hlast.out).mono ?_; rintro e w' ⟨rfl, rfl⟩)
      go_ret
      exact ⟨rfl, rfl⟩
end Go.Proofs.Ytfnpkbfgemcbaaa

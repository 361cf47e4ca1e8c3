/- Walks: RunsValid and l3Ok of the reference, restValid. -/
import Derived.Test.YtckjagpjljbohaaRu1
namespace Go.Proofs.Ytckjagpjljbohaa
open Go.RowKit

set_option maxRecDepth 100000 in
set_option maxHeartbeats 1000000 in
theorem specRunsValid_any (A : Option Addr) (rs : List (Int × Int)) (m cap : Nat) (w : World) (r : Bool) (hl : rs.length = m) (hm : m ≤ 1048576) (hr : Rd w A (fl2 rs)) (hv : runsValid rs = r) :
    Calls Try.prog 29 #[.slice A m cap] w (Ret w (.bool r)) := by
  have hno : runsOk 0 rs = false → false = r := fun h => by rw [← hv, runsValid, h, Bool.and_false]
  have hyes : runsOk 0 rs = true → decide (m ≤ 12) = r := fun h => by rw [← hv, runsValid, h, Bool.and_true, hl]
  have Hl := hideIt hl
  have Hno : Hid (runsOk 0 rs = false → false = r) := hideIt hno
  have Hyes : Hid (runsOk 0 rs = true → decide (m ≤ 12) = r) := hideIt hyes
  clear hl hv hno hyes
  go_enter Try.func29, Try.ntmps29
  go_wp2
  go_loopw [3, 4] (fun l i wr => ∃ (k : Nat) (p : Int), k ≤ m ∧ i = .int .i64 k ∧ l = .int .i64 p ∧ p = ahead rs k ∧ 0 ≤ p ∧ runsOk (ahead rs k) (rs.drop k) = runsOk 0 rs ∧ Below w.heap.size w wr) (fun _ i _ => m - (intOf i).toNat)
  case atStart => exact ⟨0, 0, by omega, rfl, rfl, rfl, by omega, rfl, Below.refl _ _⟩
  case round =>
    obtain ⟨k, p, hk, rfl, rfl, hp, hp0, hrec, hbw⟩ := hrel
    have Hrec := hideIt hrec
    clear hrec
    by_cases hlt : k < m
    · have hkl : k < rs.length := by rw [Hl.out]; exact hlt
      obtain ⟨b, off, rfl, hb, hc⟩ := (hr.below hbw (Nat.le_refl _)).at2 hkl
      obtain ⟨hx, hy⟩ := hc k hkl
      have hst := runsOk_step rs k hkl
      have hnx : ahead rs (k + 1) = a2 rs k := rfl
      obtain ⟨s, hs⟩ : ∃ s, a2 rs k = s := ⟨_, rfl⟩
      obtain ⟨e, he⟩ : ∃ e, b2 rs k = e := ⟨_, rfl⟩
      rw [hs] at hx hnx
      rw [he] at hy
      rw [← hp, hs, he] at hst
      rw [← hp] at Hrec
      have Hst := hideIt hst
      have Hnx := hideIt hnx
      have hkm : (k : Int) < (m : Int) := by omega
      clear hc hkl hst hnx hp hs he
      by_cases cs : p ≤ s ∧ s ≤ 10000
      rotate_left
      · have Hf := hideIt (Hno.out (by rw [← Hrec.out, Hst.out, show runOk p (s, e) = false by simp [runOk]; omega, Bool.false_and]))
        have hcs : s < p ∨ 10000 < s := by omega
        clear cs
        go_wp2
        go_quiet ((go_at_call 23; first | exact Calls.quiet_of_same (l6In_qt _ _ _ _ (by omega) (by omega)) | exact Calls.quiet_of_same (l6In_qf _ _ _ _ (by omega))))
        go_wp2
        go_ret
        exact ⟨ret_bool Hf.out, below_drewN hbw _⟩
      obtain ⟨cs1, cs2⟩ := cs
      by_cases ce : s + 1 ≤ e ∧ e ≤ 10000
      rotate_left
      · have Hf := hideIt (Hno.out (by rw [← Hrec.out, Hst.out, show runOk p (s, e) = false by simp [runOk]; omega, Bool.false_and]))
        have hce : e < s + 1 ∨ 10000 < e := by omega
        clear ce
        go_wp2
        go_quiet ((go_at_call 23; first | exact Calls.quiet_of_same (l6In_qt _ _ _ _ (by omega) (by omega)) | exact Calls.quiet_of_same (l6In_qf _ _ _ _ (by omega))))
        go_wp2
        go_ret
        exact ⟨ret_bool Hf.out, below_drewN hbw _⟩
      obtain ⟨ce1, ce2⟩ := ce
      have Hok := hideIt (show runOk p (s, e) = true by simp [runOk]; omega)
      go_wp2
      go_quiet ((go_at_call 23; first | exact Calls.quiet_of_same (l6In_qt _ _ _ _ (by omega) (by omega)) | exact Calls.quiet_of_same (l6In_qf _ _ _ _ (by omega))))
      go_wp2
      go_roundw
      case rel => exact ⟨k + 1, s, by omega, by go_num, rfl, Hnx.out.symm, by omega, by rw [← Hrec.out, Hst.out, Hok.out, Bool.true_and, Hnx.out], below_drewN hbw _⟩
      case measure => simp [intOf]; omega
    · obtain rfl : k = m := by omega
      have Hy := hideIt (Hyes.out (by rw [← Hrec.out, List.drop_eq_nil_of_le (by rw [Hl.out]; omega)]; rfl))
      clear hp
      go_wp2
      go_ret
      exact ⟨ret_bool (by rw [← Hy.out]; simp; try omega), hbw⟩
theorem restValid_any (t : Int) (w : World) (r : Bool) (hr : (decide (0 ≤ t) && decide (t ≤ 600)) = r) :
    Calls Try.prog 16 #[.int .i64 t] w fun e w' => e = .returned (.bool r) ∧ w = w' := by
  subst hr
  go_enter Try.func16, Try.ntmps16
  go_wp2
  all_goals go_ret
  all_goals exact ⟨ret_bool (by simp; try omega), rfl⟩
/-- runs and a rest -/
def runsRest (rs : List (Int × Int)) (rest : Int) : Bool := runsValid rs && (decide (0 ≤ rest) && decide (rest ≤ 600))
theorem l3Ok_any (A : Option Addr) (rs : List (Int × Int)) (m cap : Nat) (rest : Int) (w : World) (r : Bool) (hl : rs.length = m) (hm : m ≤ 1048576) (hr : Rd w A (fl2 rs)) (hv : runsRest rs rest = r) :
    Calls Try.prog 22 #[.slice A m cap, .int .i64 rest] w (Ret w (.bool r)) := by
  cases h1 : runsValid rs
  · have Hf := hideIt (show r = false by rw [← hv, runsRest, h1, Bool.false_and])
    have H1 := hideIt h1
    clear hv h1
    go_enter Try.func22, Try.ntmps22
    go_wp2_with fail
    refine (specRunsValid_any _ _ _ _ _ _ hl hm hr H1.out).mono ?_
    rintro e w1 ⟨rfl, hb1⟩
    go_wp2
    go_ret
    exact ⟨ret_bool Hf.out.symm, hb1⟩
  · have Hf := hideIt (show (decide (0 ≤ rest) && decide (rest ≤ 600)) = r by rw [← hv, runsRest, h1, Bool.true_and])
    have H1 := hideIt h1
    clear hv h1
    go_enter Try.func22, Try.ntmps22
    go_wp2_with fail
    refine (specRunsValid_any _ _ _ _ _ _ hl hm hr H1.out).mono ?_
    rintro e w1 ⟨rfl, hb1⟩
    go_wp2_with fail
    refine (l6In_any _ _ _ _ _ Hf.out).mono ?_
    rintro e w2 ⟨rfl, rfl⟩
    go_wp2
    go_ret
    exact ⟨rfl, hb1⟩
end Go.Proofs.Ytckjagpjljbohaa

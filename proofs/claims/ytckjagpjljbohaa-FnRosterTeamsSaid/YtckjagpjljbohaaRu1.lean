/- Walks: timeValid and RunsValid of the program. A run is two ints. -/
import Derived.Test.YtckjagpjljbohaaL6
import Derived.Test.YtckjagpjljbohaaParts
import Derived.BigQuiet
import Derived.IntWalk
import Derived.Deep.RegionHeld
namespace Go.Proofs.Ytckjagpjljbohaa
open Go.RowKit

theorem cellA1 {w : World} {a : Addr} {v : Value} (o : Obj) (h : w.cell? a = some v) : (w.alloc o).cell? a = some v := (World.cell?_alloc_some w a o (by rw [h]; rfl)).trans h
/-- one run behind a start -/
def runOk (p : Int) (r : Int × Int) : Bool := decide (p ≤ r.1) && decide (r.1 ≤ 10000) && (decide (r.1 + 1 ≤ r.2) && decide (r.2 ≤ 10000))
/-- runs behind a start -/
def runsOk : Int → List (Int × Int) → Bool
  | _, [] => true
  | p, r :: rs => runOk p r && runsOk r.1 rs
def runsValid (rs : List (Int × Int)) : Bool := decide (rs.length ≤ 12) && runsOk 0 rs
/-- the start of the run ahead of an index -/
def ahead (rs : List (Int × Int)) : Nat → Int
  | 0 => 0
  | k + 1 => a2 rs k
theorem runsOk_step (rs : List (Int × Int)) (k : Nat) (h : k < rs.length) : runsOk (ahead rs k) (rs.drop k) = (runOk (ahead rs k) (a2 rs k, b2 rs k) && runsOk (ahead rs (k + 1)) (rs.drop (k + 1))) := by
  rw [drop_at rs k (0, 0) h]; rfl
theorem timeValid_any (t : Int) (w : World) (r : Bool) (hr : (decide (0 ≤ t) && decide (t ≤ 10000)) = r) :
    Calls Try.prog 17 #[.int .i64 t] w fun e w' => e = .returned (.bool r) ∧ w = w' := by
  subst hr
  go_enter Try.func17, Try.ntmps17
  go_wp2
  all_goals go_ret
  all_goals exact ⟨ret_bool (by simp; try omega), rfl⟩

set_option maxRecDepth 100000 in
set_option maxHeartbeats 1000000 in
theorem implRunsValid_any (A : Option Addr) (rs : List (Int × Int)) (m cap : Nat) (w : World) (r : Bool) (hl : rs.length = m) (hm : m ≤ 1048576) (hr : Rd w A (fl2 rs)) (hv : runsValid rs = r) :
    Calls Try.prog 15 #[.slice A m cap] w (Ret w (.bool r)) := by
  by_cases h12 : 12 < m
  · have hv' : false = r := by rw [← hv, runsValid, decide_eq_false (by omega), Bool.false_and]
    subst hv'
    clear hv
    go_enter Try.func15, Try.ntmps15
    go_wp2
    go_ret
    exact ⟨rfl, Below.refl _ _⟩
  have hrest : runsOk 0 rs = r := by rw [← hv, runsValid, decide_eq_true (show rs.length ≤ 12 by omega), Bool.true_and]
  have Hl := hideIt hl
  have Hrest := hideIt hrest
  clear hl hv hrest
  go_enter Try.func15, Try.ntmps15
  go_wp2
  go_loopw [10] (fun i wr => ∃ k : Nat, k ≤ m ∧ i = .int .i64 k ∧ 0 ≤ ahead rs k ∧ runsOk (ahead rs k) (rs.drop k) = runsOk 0 rs ∧ Below w.heap.size w wr) (fun i _ => m - (intOf i).toNat)
  case atStart => exact ⟨0, by omega, rfl, by simp [ahead], rfl, Below.refl _ _⟩
  case round =>
    obtain ⟨k, hk, rfl, hp0, hrec, hbw⟩ := hrel
    have Hrec := hideIt hrec
    clear hrec
    by_cases hlt : k < m
    · have hkl : k < rs.length := by rw [Hl.out]; exact hlt
      obtain ⟨b, off, rfl, hb, hc⟩ := (hr.below hbw (Nat.le_refl _)).at2 hkl
      obtain ⟨hx, hy⟩ := hc k hkl
      have hprev : 0 < k → wr.cell? ⟨b, off + (k - 1) * 2, none⟩ = some (.int .i64 (ahead rs k)) := fun h0 => by
        have := (hc (k - 1) (by omega)).1
        obtain ⟨j, rfl⟩ : ∃ j, k = j + 1 := ⟨k - 1, by omega⟩
        exact this
      have hz : k = 0 → ahead rs k = 0 := fun h0 => by subst h0; rfl
      have hst := runsOk_step rs k hkl
      have hnx : ahead rs (k + 1) = a2 rs k := rfl
      obtain ⟨p, hp⟩ : ∃ p, ahead rs k = p := ⟨_, rfl⟩
      obtain ⟨s, hs⟩ : ∃ s, a2 rs k = s := ⟨_, rfl⟩
      obtain ⟨e, he⟩ : ∃ e, b2 rs k = e := ⟨_, rfl⟩
      rw [hs] at hx hnx
      rw [he] at hy
      rw [hp, hs, he] at hst
      rw [hp] at hprev hz hp0 Hrec
      have Hst := hideIt hst
      have Hnx := hideIt hnx
      have hsz := hbw.size
      have bA := hbw.alloc hsz (.cells #[.int .i64 s, .int .i64 e] 31)
      have Hprev : Hid (0 < k → wr.cell? ⟨b, off + (k - 1) * 2, none⟩ = some (.int .i64 p)) := hideIt hprev
      clear hc hkl hst hnx hp hs he hprev
      by_cases cs : 0 ≤ s ∧ s ≤ 10000
      rotate_left
      · have Hs := hideIt (show (decide (0 ≤ s) && decide (s ≤ 10000)) = false by simp; omega)
        have Hno := hideIt (show r = false by rw [← Hrest.out, ← Hrec.out, Hst.out, show runOk p (s, e) = false by simp [runOk]; omega, Bool.false_and])
        clear cs hz
        go_wp2_with fail
        refine (timeValid_any _ _ false Hs.out).mono ?_
        rintro e w' ⟨rfl, rfl⟩
        go_wp2
        go_ret
        exact ⟨ret_bool Hno.out.symm, bA⟩
      have Hs := hideIt (show (decide (0 ≤ s) && decide (s ≤ 10000)) = true by simp; omega)
      by_cases ce : 0 ≤ e ∧ e ≤ 10000
      rotate_left
      · have He := hideIt (show (decide (0 ≤ e) && decide (e ≤ 10000)) = false by simp; omega)
        have Hno := hideIt (show r = false by rw [← Hrest.out, ← Hrec.out, Hst.out, show runOk p (s, e) = false by simp [runOk]; omega, Bool.false_and])
        clear cs ce hz
        go_wp2_with fail
        refine (timeValid_any _ _ true Hs.out).mono ?_
        rintro e w' ⟨rfl, rfl⟩
        go_wp2_with fail
        refine (timeValid_any _ _ false He.out).mono ?_
        rintro e w' ⟨rfl, rfl⟩
        go_wp2
        go_ret
        exact ⟨ret_bool Hno.out.symm, bA⟩
      have He := hideIt (show (decide (0 ≤ e) && decide (e ≤ 10000)) = true by simp; omega)
      by_cases cl : e ≤ s
      · have Hno := hideIt (show r = false by rw [← Hrest.out, ← Hrec.out, Hst.out, show runOk p (s, e) = false by simp [runOk]; omega, Bool.false_and])
        clear cs ce hz
        go_wp2_with fail
        refine (timeValid_any _ _ true Hs.out).mono ?_
        rintro e w' ⟨rfl, rfl⟩
        go_wp2_with fail
        refine (timeValid_any _ _ true He.out).mono ?_
        rintro e w' ⟨rfl, rfl⟩
        go_wp2
        go_ret
        exact ⟨ret_bool Hno.out.symm, bA⟩
      go_wp2_with fail
      refine (timeValid_any _ _ true Hs.out).mono ?_
      rintro e' w' ⟨rfl, rfl⟩
      go_wp2_with fail
      refine (timeValid_any _ _ true He.out).mono ?_
      rintro e' w' ⟨rfl, rfl⟩
      by_cases h0 : k = 0
      · subst h0
        have hp00 := hz rfl
        have hs0 : 0 ≤ s := cs.1
        have Hok := hideIt (show runOk p (s, e) = true by simp [runOk]; omega)
        clear cs ce hz hp00
        go_wp2
        go_quiet (fail)
        go_wp2
        go_roundw
        case rel => exact ⟨1, by omega, by go_num, by rw [Hnx.out]; omega, by rw [← Hrec.out, Hst.out, Hok.out, Bool.true_and], below_drewN bA _⟩
        case measure => simp [intOf]; omega
      · obtain ⟨j, rfl⟩ : ∃ j, k = j + 1 := ⟨k - 1, by omega⟩
        have hpc := Hprev.out (by omega)
        rw [show j + 1 - 1 = j by omega] at hpc
        have hpA := cellA1 (.cells #[.int .i64 s, .int .i64 e] 31) hpc
        have hjm : (j : Int) < (m : Int) := by omega
        have hj1 : (0 : Int) < (j : Int) + 1 := by omega
        have hw : IntKind.i64.wrap ((j : Int) + 1 - 1) = (j : Int) := by rw [show (j : Int) + 1 - 1 = j by omega]; exact IntWalk.i64_in _ (by omega)
        by_cases cp : s < p
        · have Hno := hideIt (show r = false by rw [← Hrest.out, ← Hrec.out, Hst.out, show runOk p (s, e) = false by simp [runOk]; omega, Bool.false_and])
          clear cs ce hz h0
          go_wp2
          go_quiet (fail)
          go_wp2
          go_ret
          exact ⟨ret_bool Hno.out.symm, below_drewN bA _⟩
        · have Hok := hideIt (show runOk p (s, e) = true by simp [runOk]; omega)
          have hs0 : 0 ≤ s := cs.1
          have hd : decide (s < p) = false := decide_eq_false cp
          clear cs ce hz h0 cp
          go_wp2
          go_quiet (fail)
          go_wp2
          go_roundw
          case rel => exact ⟨j + 2, by omega, by go_num, by rw [Hnx.out]; omega, by rw [← Hrec.out, Hst.out, Hok.out, Bool.true_and], below_drewN bA _⟩
          case measure => simp [intOf]; omega
    · obtain rfl : k = m := by omega
      have Hyes := hideIt (show r = true by rw [← Hrest.out, ← Hrec.out, List.drop_eq_nil_of_le (by rw [Hl.out]; omega)]; rfl)
      go_wp2
      go_ret
      exact ⟨ret_bool Hyes.out.symm, hbw⟩
end Go.Proofs.Ytckjagpjljbohaa

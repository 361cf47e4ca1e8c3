/- Walks: RosterTeams of the reference, TeamsBusy. -/
import Derived.Test.YtckjagpjljbohaaRtTm
import Derived.Test.YtckjagpjljbohaaRu2
import Derived.Test.YtckjagpjljbohaaRu4
namespace Go.Proofs.Ytckjagpjljbohaa
open Go.RowKit

set_option maxRecDepth 100000 in
set_option maxHeartbeats 2000000 in
theorem specRosterTeams_any (A : Option Addr) (rs : List (Int × Int)) (m cap : Nat) (rest : Int) (B : Option Addr) (ro : List Int) (q capB : Nat) (w : World) (hl : rs.length = m) (hm : m ≤ 1048576) (hr : Rd w A (fl2 rs)) (hlb : ro.length = q) (hq : q ≤ 1048576) (hs : Rd w B (fl1 ro)) :
    Calls Try.prog 6 #[.slice A m cap, .int .i64 rest, .slice B q capB] w (Ret w (.int .i64 (rosterTeams rs rest ro))) := by
  have Hl := hideIt hl
  have Hlb := hideIt hlb
  clear hl hlb
  cases hv : rosterValid rs rest ro
  · have Hv := hideIt hv
    have Hd := hideIt (show rosterTeams rs rest ro = -1 by rw [rosterTeams, hv]; rfl)
    clear hv
    go_enter Try.func6, Try.ntmps6
    go_wp2_with fail
    refine (specRosterValid_any _ _ _ _ _ _ _ _ _ _ _ Hl.out hm hr Hlb.out hq hs Hv.out).mono ?_
    rintro e w1 ⟨rfl, hb1⟩
    go_wp2
    go_ret
    exact ⟨ret_int Hd.out.symm, hb1⟩
  have Hv := hideIt hv
  have Hd := hideIt (show rosterTeams rs rest ro = (diffTo ro q : Nat) by rw [rosterTeams, hv, Hlb.out]; rfl)
  clear hv
  go_enter Try.func6, Try.ntmps6
  go_wp2_with fail
  refine (specRosterValid_any _ _ _ _ _ _ _ _ _ _ _ Hl.out hm hr Hlb.out hq hs Hv.out).mono ?_
  rintro e w1 ⟨rfl, hb1⟩
  go_wp2_with fail
  refine (l3Different_any _ _ _ _ _ Hlb.out hq (hs.below hb1 (Nat.le_refl _))).mono ?_
  rintro e w2 ⟨rfl, hb2⟩
  have hb := hb1.trans (hb2.mono hb1.size)
  go_wp2
  go_ret
  exact ⟨ret_int Hd.out.symm, hb⟩
set_option maxRecDepth 100000 in
set_option maxHeartbeats 2000000 in
theorem implTeamsBusy_any (A : Option Addr) (rs : List (Int × Int)) (m cap : Nat) (rest t : Int) (w : World) (hl : rs.length = m) (hm : m ≤ 1048576) (hr : Rd w A (fl2 rs)) (hv : runsRest rs rest = true) (ht : 0 ≤ t ∧ t ≤ 10000) :
    Calls Try.prog 8 #[.slice A m cap, .int .i64 rest, .int .i64 t] w (Ret w (.int .i64 (busyTo rs rest t m : Nat))) := by
  have Hl := hideIt hl
  have Hin := hideIt (runsRest_in hv)
  rw [runsRest, Bool.and_eq_true] at hv
  obtain ⟨h1, h2⟩ := hv
  have H1 := hideIt h1
  have H2 := hideIt h2
  have Ht := hideIt (show (decide (0 ≤ t) && decide (t ≤ 10000)) = true by simp; omega)
  have Hle := hideIt (busyTo_le rs rest t)
  clear hl h1 h2
  go_enter Try.func8, Try.ntmps8
  go_wp2_with fail
  refine (implRunsValid_any _ _ _ _ _ _ Hl.out hm hr H1.out).mono ?_
  rintro e w1 ⟨rfl, hb1⟩
  go_wp2_with fail
  refine (restValid_any _ _ _ H2.out).mono ?_
  rintro e w2 ⟨rfl, rfl⟩
  go_wp2_with fail
  refine (timeValid_any _ _ _ Ht.out).mono ?_
  rintro e w2 ⟨rfl, rfl⟩
  go_wp2
  go_loopw [7, 25] (fun c i wr => ∃ k : Nat, k ≤ m ∧ c = .int .i64 (busyTo rs rest t k : Nat) ∧ i = .int .i64 k ∧ Below w.heap.size w wr) (fun _ i _ => m - (intOf i).toNat)
  case atStart => exact ⟨0, by omega, rfl, rfl, hb1⟩
  case round =>
    obtain ⟨k, hk, rfl, rfl, hbw⟩ := hrel
    clear hb1
    by_cases hlt : k < m
    · have hkl : k < rs.length := by rw [Hl.out]; exact hlt
      obtain ⟨b, off, rfl, hb, hc⟩ := (hr.below hbw (Nat.le_refl _)).at2 hkl
      obtain ⟨hx, hy⟩ := hc k hkl
      obtain ⟨_, ⟨r0, r1⟩, hin⟩ := Hin.out
      obtain ⟨i1, i2, i3⟩ := hin k hkl
      have hle := Hle.out k
      have Hst := hideIt (show busyTo rs rest t (k + 1) = if busyAt rs rest t k = true then busyTo rs rest t k + 1 else busyTo rs rest t k from rfl)
      have hba : busyAt rs rest t k = (decide (a2 rs k ≤ t) && decide (t < b2 rs k + rest)) := rfl
      obtain ⟨s, hs⟩ : ∃ s, a2 rs k = s := ⟨_, rfl⟩
      obtain ⟨e, he⟩ : ∃ e, b2 rs k = e := ⟨_, rfl⟩
      rw [hs, he] at hba
      rw [hs] at hx i1 i2
      rw [he] at hy i2 i3
      have hsz := hbw.size
      have bA := hbw.alloc hsz (.cells #[.int .i64 s, .int .i64 e] 31)
      have hkm : (k : Int) < (m : Int) := by omega
      have hw := IntWalk.i64_in (e + rest) (by omega)
      clear hc hkl hs he hin
      by_cases c1 : s ≤ t
      · by_cases c2 : t < e + rest
        · have Hn := hideIt (show busyTo rs rest t (k + 1) = busyTo rs rest t k + 1 by rw [Hst.out, hba, decide_eq_true c1, decide_eq_true c2]; rfl)
          clear hba
          go_wp2
          go_roundw
          case rel => exact ⟨k + 1, by omega, by rw [Hn.out]; go_num, by go_num, bA⟩
          case measure => simp [intOf]; omega
        · have Hn := hideIt (show busyTo rs rest t (k + 1) = busyTo rs rest t k by rw [Hst.out, hba, decide_eq_false c2, Bool.and_false]; rfl)
          clear hba
          go_wp2
          go_roundw
          case rel => exact ⟨k + 1, by omega, by rw [Hn.out], by go_num, bA⟩
          case measure => simp [intOf]; omega
      · have Hn := hideIt (show busyTo rs rest t (k + 1) = busyTo rs rest t k by rw [Hst.out, hba, decide_eq_false c1, Bool.false_and]; rfl)
        clear hba
        go_wp2
        go_roundw
        case rel => exact ⟨k + 1, by omega, by rw [Hn.out], by go_num, bA⟩
        case measure => simp [intOf]; omega
    · obtain rfl : k = m := by omega
      go_wp2
      go_ret
      exact ⟨rfl, hbw⟩
end Go.Proofs.Ytckjagpjljbohaa

/- The walk of FnRosterTeams. -/
import Derived.Test.YtckjagpjljbohaaDrRt
import Derived.Test.YtckjagpjljbohaaRtTl
namespace Go.Proofs.Ytckjagpjljbohaa.fnRosterTeams
open Go.RowKit

set_option maxRecDepth 100000 in
set_option maxHeartbeats 4000000 in
theorem walk (A : Option Addr) (xs : List Int) (n c : Nat) (A' : Option Addr) (xs' : List Int) (n' c' : Nat) (w : World) (hl : xs.length = n) (hm : n ≤ maxLen) (hc : n ≤ c) (hx : Bytes xs) (hr : Rd w A (flU xs)) (_ : xs'.length = n') (hm' : n' ≤ maxLen) (_ : n' ≤ c') (_ : Bytes xs') (_ : Rd w A' (flU xs')) :
    Calls Try.prog 3 #[.slice A n c, .slice A' n' c'] w (Ret w (.bool true)) := by
  unfold maxLen at hm hm'
  by_cases hn : n ≤ 1048576
  rotate_left
  · go_enter Try.func3, Try.ntmps3
    go_wp2_with fail
    go_ret
    exact ⟨rfl, Below.refl _ _⟩
  by_cases hn' : n' ≤ 1048576
  rotate_left
  · go_enter Try.func3, Try.ntmps3
    go_wp2_with fail
    go_ret
    exact ⟨rfl, Below.refl _ _⟩
  go_enter Try.func3, Try.ntmps3
  go_wp2_with fail
  refine (DrawRosterTeams_any _ xs _ _ _ hl hn hc hx hr).mono ?_
  rintro e w1 ⟨rs, b, m, cb, rest, ro, b', q, cr, rfl, hl1, m8, hq1, q16, ho1, hp1, hb1⟩
  have Hl1 := hideIt hl1
  have Hq1 := hideIt hq1
  clear hl1 hq1
  obtain ⟨v, hv⟩ : ∃ v, rosterTeams rs rest ro = v := ⟨_, rfl⟩
  have Hv := hideIt hv
  clear hv
  go_wp2_with fail
  refine (implRosterTeams_any _ _ _ _ _ _ _ _ _ _ Hl1.out (by omega) (Rd.of_own ho1) Hq1.out (by omega) (Rd.of_own hp1)).mono ?_
  rw [Hv.out]
  rintro e w2 ⟨rfl, hb2⟩
  have b2 := hb1.trans (hb2.mono hb1.size)
  have ho12 := own_below ho1 hb2 (Nat.le_refl _)
  have hp12 := own_below hp1 hb2 (Nat.le_refl _)
  go_wp2_with fail
  refine (specRosterTeams_any _ _ _ _ _ _ _ _ _ _ Hl1.out (by omega) (Rd.of_own ho12) Hq1.out (by omega) (Rd.of_own hp12)).mono ?_
  rw [Hv.out]
  rintro e w3 ⟨rfl, hb3⟩
  have b3 := b2.trans (hb3.mono b2.size)
  have ho13 := own_below ho12 hb3 (Nat.le_refl _)
  clear ho1 hp1 ho12 hp12 hb1 hb2 hb3 b2
  cases hval : rosterValid rs rest ro
  · obtain rfl : v = -1 := by rw [← Hv.out, rosterTeams, hval]; rfl
    clear hval
    go_wp2
    go_ret
    exact ⟨rfl, b3⟩
  obtain rfl : v = (diffTo ro ro.length : Nat) := by rw [← Hv.out, rosterTeams, hval]; rfl
  have hqm : ro.length = m := by rw [(rosterValid_t hval).2.1, Hl1.out]
  have hdm := diffTo_le ro ro.length
  rw [hqm] at hdm
  obtain ⟨d, hd⟩ : ∃ d, diffTo ro ro.length = d := ⟨_, rfl⟩
  have hdm : d ≤ m := by rw [← hd, hqm]; rw [hqm] at hd; omega
  have Hval := hideIt hval
  have Hd := hideIt hd
  rw [hd]
  clear hval hqm hd
  have hd0 : ¬ (d : Int) < 0 := by omega
  by_cases h0 : m = 0
  · subst h0
    obtain rfl : d = 0 := by omega
    go_wp2_with fail
    go_ret
    exact ⟨rfl, b3⟩
  obtain ⟨k, hk⟩ : ∃ k, n' % m = k := ⟨_, rfl⟩
  have hkm : k < m := by rw [← hk]; exact Nat.mod_lt _ (by omega)
  have hrem : (n' : Int).tmod (m : Int) = (k : Int) := by rw [← hk]; exact (Int.ofNat_tmod n' m).symm
  have hm0 : ((m : Int) == 0) = false := by simp; omega
  have hm1 : ¬ (m : Int) = 0 := by omega
  clear hk
  go_wp2_with fail
  refine (implTeamsLeast_any _ _ _ _ _ ro _ Hl1.out (by omega) (Rd.of_own ho13) Hval.out).mono ?_
  rintro e w4 ⟨u, rfl, hu, hb4⟩
  rw [Hd.out] at hu
  have b4 := b3.trans (hb4.mono b3.size)
  have ho14 := own_below ho13 hb4 (Nat.le_refl _)
  have hkl : k < rs.length := by rw [Hl1.out]; exact hkm
  obtain ⟨hx1, _⟩ := row2_a ho14 (k := k) hkl
  have hdm2 : (d : Int) ≤ (m : Int) := by omega
  have hkm2 : (k : Int) < (m : Int) := by omega
  have htin := (runsRest_in (rosterValid_t Hval.out).1).2.2 k hkl
  obtain ⟨s, hs⟩ : ∃ s, a2 rs k = s := ⟨_, rfl⟩
  rw [hs] at hx1 htin
  have hs1 : 0 ≤ s ∧ s ≤ 10000 := by omega
  have hbz := busy_law Hval.out s
  rw [Hd.out, Hl1.out] at hbz
  have Hbz := hideIt hbz
  clear hrem hm0 hm1 hs htin hbz hkl hb4 ho13 b3
  go_wp2_with fail
  refine (implTeamsBusy_any _ _ _ _ _ s _ Hl1.out (by omega) (Rd.of_own ho14) (rosterValid_t Hval.out).1 hs1).mono ?_
  rintro e w5 ⟨rfl, hb5⟩
  have b5 := b4.trans (hb5.mono b4.size)
  have hbz : ((busyTo rs rest s m : Nat) : Int) ≤ (d : Int) := by have := Hbz.out; omega
  obtain ⟨bz, hbe⟩ : ∃ z, busyTo rs rest s m = z := ⟨_, rfl⟩
  rw [hbe] at hbz ⊢
  clear hbe hb5 b4
  go_wp2
  go_ret
  exact ⟨rfl, b5⟩
end Go.Proofs.Ytckjagpjljbohaa.fnRosterTeams

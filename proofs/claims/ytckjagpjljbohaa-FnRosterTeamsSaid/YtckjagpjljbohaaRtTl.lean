/- Walks: TeamsLeast. -/
import Derived.Test.YtckjagpjljbohaaRtWk
namespace Go.Proofs.Ytckjagpjljbohaa
open Go.RowKit

theorem teams_le {rs : List (Int × Int)} {rest : Int} {ro : List Int} {m T : Nat} (hl : ro.length = m) (h : ∀ j, j < m → 0 ≤ a1 ro j ∧ a1 ro j < T) : rosterTeams rs rest ro ≤ T := by
  unfold rosterTeams
  split
  · have := diffTo_top (ro := ro) (T := T) (k := ro.length) (fun j => by
      by_cases hj : j < m
      · exact (h j hj).1
      · rw [a1_out (by omega)]; exact Int.le_refl _) (fun j hj => (h j (by omega)).2)
    omega
  · omega
set_option maxRecDepth 100000 in
set_option maxHeartbeats 1000000 in
theorem implTeamsLeast_any (A : Option Addr) (rs : List (Int × Int)) (m cap : Nat) (rest : Int) (gro : List Int) (w : World) (hl : rs.length = m) (hm : m ≤ 1048576) (hr : Rd w A (fl2 rs)) (hv : rosterValid rs rest gro = true) :
    Calls Try.prog 7 #[.slice A m cap, .int .i64 rest] w fun e w' => ∃ v : Int, e = .returned (.int .i64 v) ∧ v ≤ (diffTo gro gro.length : Nat) ∧ Below w.heap.size w w' := by
  have Hl := hideIt hl
  clear hl
  go_enter Try.func7, Try.ntmps7
  go_wp2_with fail
  refine (implRosterMake_any A rs m cap rest gro w _ Hl.out hm hr hv rfl).mono ?_
  rintro e w1 ⟨ro, b, c, rfl, hlr, hin, ho, hb⟩
  have Hle := hideIt (teams_le (rs := rs) (rest := rest) hlr hin)
  clear hin
  go_wp2_with fail
  refine (implRosterTeams_any A rs m cap rest (some ⟨b, 0, none⟩) ro m c w1 Hl.out hm (hr.below hb (Nat.le_refl _)) hlr hm (Rd.of_own ho)).mono ?_
  rintro e w2 ⟨rfl, hb2⟩
  have hbb := hb.trans (hb2.mono hb.size)
  obtain ⟨v, hve⟩ : ∃ v, rosterTeams rs rest ro = v := ⟨_, rfl⟩
  rw [hve] at Hle ⊢
  clear hve
  go_wp2
  go_ret
  exact ⟨v, rfl, Hle.out, hbb⟩
end Go.Proofs.Ytckjagpjljbohaa

/- Walks: what is drawn for the law of a roster's teams. -/
import Derived.Test.YtckjagpjljbohaaDrRu2
namespace Go.Proofs.Ytckjagpjljbohaa
open Go.RowKit

/-- drawn runs, a rest, a roster, in a new world -/
def DrawnRt (w : World) (e : Ending) (w' : World) : Prop :=
  ∃ (rs : List (Int × Int)) (b m c : Nat) (rest : Int) (ro : List Int) (b' q c' : Nat), e = .returned (.tuple #[.slice (some ⟨b, 0, none⟩) m c, .int .i64 rest, .slice (some ⟨b', 0, none⟩) q c']) ∧ rs.length = m ∧ m ≤ 8 ∧ ro.length = q ∧ q ≤ 16 ∧
    w'.ownsRow w.heap.size 31 2 (.slice (some ⟨b, 0, none⟩) m c) m (fl2 rs) ∧ w'.ownsRow w.heap.size 3 1 (.slice (some ⟨b', 0, none⟩) q c') q (fl1 ro) ∧ Below w.heap.size w w'
set_option maxRecDepth 100000 in
set_option maxHeartbeats 1000000 in
theorem DrawRosterTeams_any (A : Option Addr) (xs : List Int) (n c : Nat) (w : World) (hl : xs.length = n) (hn : n ≤ 1048576) (hc : n ≤ c) (hx : Bytes xs) (hr : Rd w A (flU xs)) :
    Calls Try.prog 4 #[.slice A n c] w (DrawnRt w) := by
  go_enter Try.func4, Try.ntmps4
  go_wp2_with fail
  refine (l6Open_any _ xs _ _ _ hl hn hc hx hr).mono ?_
  rintro e w1 ⟨g, rfl, hg, hr1, hb1⟩
  have hgl := hr1.lt
  go_wp2_with fail
  refine (l91Roster_any g 0 _ (by omega) hr1).mono ?_
  rintro e w2 ⟨rs, b, m, cb, rest, ro, b', q, cr, rfl, hl2, m8, hq2, q16, ho2, hp2, hg2, hr2⟩
  go_wp2
  refine bodyPost_ret (by simp [results, Try.results4, go_sem]; rfl) rfl ?_
  exact ⟨rs, b, m, cb, rest, ro, b', q, cr, rfl, hl2, m8, hq2, q16, own_base ho2 hb1.size, own_base hp2 hb1.size, below_pick hb1 hg2 hg hb1.size⟩
end Go.Proofs.Ytckjagpjljbohaa

/- Walks: what is drawn for the laws of rosters. -/
import Derived.Test.YtpcmkegogcffiaaDrRu2
namespace Go.Proofs.Ytpcmkegogcffiaa
open Go.RowKit

/-- drawn runs, a rest, a roster, an index and two teams, in a new world -/
def DrawnSw (w : World) (e : Ending) (w' : World) : Prop :=
  ∃ (rs : List (Int × Int)) (b m c : Nat) (rest : Int) (ro : List Int) (b' q c' : Nat) (f x y : Int), e = .returned (.tuple #[.slice (some ⟨b, 0, none⟩) m c, .int .i64 rest, .slice (some ⟨b', 0, none⟩) q c', .int .i64 f, .int .i64 x, .int .i64 y]) ∧ rs.length = m ∧ m ≤ 8 ∧ ro.length = q ∧ q ≤ 16 ∧
    w'.ownsRow w.heap.size 64 2 (.slice (some ⟨b, 0, none⟩) m c) m (fl2 rs) ∧ w'.ownsRow w.heap.size 3 1 (.slice (some ⟨b', 0, none⟩) q c') q (fl1 ro) ∧ Below w.heap.size w w'
set_option maxRecDepth 100000 in
set_option maxHeartbeats 1000000 in
theorem DrawRosterSwap_any (A : Option Addr) (xs : List Int) (n c : Nat) (w : World) (hl : xs.length = n) (hn : n ≤ 1048576) (hc : n ≤ c) (hx : Bytes xs) (hr : Rd w A (flU xs)) :
    Calls Try.prog 37 #[.slice A n c] w (DrawnSw w) := by
  go_enter Try.func37, Try.ntmps37
  go_wp2_with fail
  refine (l6Open_any _ xs _ _ _ hl hn hc hx hr).mono ?_
  rintro e w1 ⟨g, rfl, hg, hr1, hb1⟩
  have hgl := hr1.lt
  go_wp2_with fail
  refine (l91Roster_any g 0 _ (by omega) hr1).mono ?_
  rintro e w2 ⟨rs, b, m, cb, rest, ro, b', q, cr, rfl, hl2, m8, hq2, q16, ho2, hp2, hg2, hr2⟩
  go_wp2_with fail
  all_goals
    refine (pick_any g _ _ _ (by omega) (by omega) (by omega) hr2).mono ?_
    rintro e w3 ⟨v3, rfl, h30, h31, hg3, hr3⟩
    have ho3 := own_pick ho2 hgl hg3
    have hp3 := own_pick hp2 hgl hg3
    have hgw3 := grown_same hg2 hg3
    clear ho2 hp2 hg2 hg3 hr2
    go_wp2_with fail
    refine (pick_any g _ 20 _ (by omega) (by omega) (by omega) hr3).mono ?_
    rintro e w4 ⟨v4, rfl, h40, h41, hg4, hr4⟩
    have ho4 := own_pick ho3 hgl hg4
    have hp4 := own_pick hp3 hgl hg4
    have hgw4 := grown_same hgw3 hg4
    clear ho3 hp3 hgw3 hg4 hr3
    go_wp2_with fail
    refine (pick_any g _ 4 _ (by omega) (by omega) (by omega) hr4).mono ?_
    rintro e w5 ⟨v5, rfl, h50, h51, hg5, hr5⟩
    have ho5 := own_pick ho4 hgl hg5
    have hp5 := own_pick hp4 hgl hg5
    have hgw5 := grown_same hgw4 hg5
    clear ho4 hp4 hgw4 hg5 hr4
    go_wp2_with fail
    refine (pick_any g _ 5 _ (by omega) (by omega) (by omega) hr5).mono ?_
    rintro e w6 ⟨v6, rfl, h60, h61, hg6, hr6⟩
    have ho6 := own_pick ho5 hgl hg6
    have hp6 := own_pick hp5 hgl hg6
    have hgw6 := grown_same hgw5 hg6
    clear ho5 hp5 hgw5 hg6 hr5
    go_wp2
    refine bodyPost_ret (by simp [results, Try.results37, go_sem]; rfl) rfl ?_
    exact ⟨rs, b, m, cb, rest, ro, b', q, cr, _, v5, v6, rfl, hl2, m8, hq2, q16, own_base ho6 hb1.size, own_base hp6 hb1.size, below_pick hb1 hgw6 hg hb1.size⟩
end Go.Proofs.Ytpcmkegogcffiaa

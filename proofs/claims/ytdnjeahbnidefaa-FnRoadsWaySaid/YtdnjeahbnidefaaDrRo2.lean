/- Walks: drawn towns, drawn roads with two towns, DrawRoadsFar. -/
import Derived.Test.YtdnjeahbnidefaaDrRo
import Derived.Deep.QuietTactic
namespace Go.Proofs.Ytdnjeahbnidefaa
open Go.RowKit

def TownEnd (w : World) (g K : Nat) (e : Ending) (w' : World) : Prop :=
  ∃ v : Int, e = .returned (.int .i64 v) ∧ -1 ≤ v ∧ v ≤ 6 ∧ w.grownBy w' (some g) ∧ Rdr w' g (K + 2)
set_option maxRecDepth 100000 in
theorem l91Town_any (g K n : Nat) (w : World) (hK : K ≤ 100000000) (hn2 : 2 ≤ n) (hn6 : n ≤ 6) (hr : Rdr w g K) :
    Calls Try.prog 65 #[.pointer (some ⟨g, 0, none⟩), .int .i64 n] w (TownEnd w g K) := by
  have hgl := hr.lt
  have hn1 : (1 : Int) < (n : Int) := by omega
  have hn63 : (n : Int) ≤ 6 := by omega
  go_enter Try.func65, Try.ntmps65
  go_wp2_with fail
  refine (pick_any g K 24 _ (by omega) (by omega) (by omega) hr).mono ?_
  rintro e w1 ⟨v1, rfl, h10, h11, hg1, hr1⟩
  have hgl1 := Nat.lt_of_lt_of_le hgl hg1.size
  by_cases c0 : v1 = 0
  · subst c0
    go_wp2_with fail
    refine (pick_any g _ 2 _ (by omega) (by omega) (by omega) (hr1.alloc _)).mono ?_
    rintro e w2 ⟨v2, rfl, h20, h21, hg2, hr2⟩
    obtain ⟨u, hu, hu2⟩ := pair_at (-1) n h20 h21
    have hcell := tab_cell hgl1 hg2 hu
    have hgw2 := grown_same (grown_alloc hg1 _) hg2
    clear hu hg1 hg2 hr1 hr
    go_wp2
    go_ret
    exact ⟨u, rfl, by omega, by omega, hgw2, hr2⟩
  · have d0 : (v1 == 0) = false := by simp [c0]
    clear c0
    go_wp2_with fail
    refine (pick_any g _ n _ (by omega) (by omega) (by omega) hr1).mono ?_
    rintro e w2 ⟨v2, rfl, h20, h21, hg2, hr2⟩
    have hgw2 := grown_same hg1 hg2
    clear hg1 hg2 hr1 hr
    go_wp2
    go_ret
    exact ⟨v2, rfl, by omega, by omega, hgw2, hr2⟩
/-- drawn roads and two towns -/
def DrawnTwo (w : World) (g K : Nat) (e : Ending) (w' : World) : Prop :=
  ∃ (n : Nat) (rs : List (Int × Int × Int)) (b m c : Nat) (x y : Int), e = .returned (.tuple #[.int .i64 n, .slice (some ⟨b, 0, none⟩) m c, .int .i64 x, .int .i64 y]) ∧ 2 ≤ n ∧ n ≤ 6 ∧ rs.length = m ∧ m ≤ 10 ∧ RdIn rs ∧ (-1 ≤ x ∧ x ≤ 6) ∧ (-1 ≤ y ∧ y ≤ 6) ∧ w'.ownsRow w.heap.size 32 3 (.slice (some ⟨b, 0, none⟩) m c) m (fl3 rs) ∧ w.grownBy w' (some g) ∧ Rdr w' g (K + 90)
set_option maxRecDepth 100000 in
set_option maxHeartbeats 2000000 in
theorem l91Two_any (g K : Nat) (w : World) (hK : K ≤ 10000000) (hr : Rdr w g K) :
    Calls Try.prog 51 #[.pointer (some ⟨g, 0, none⟩)] w (DrawnTwo w g K) := by
  have hgl := hr.lt
  go_enter Try.func51, Try.ntmps51
  go_wp2_with fail
  refine (l91Roads_any g K _ (by omega) hr).mono ?_
  rintro e w1 ⟨n, rs, b, m, c, rfl, hn2, hn6, hl, hm, hin, ho1, hg1, hr1⟩
  have Hl := hideIt hl
  have Hin : Hid (RdIn rs) := hideIt hin
  clear hl hin hr
  have hgl1 := Nat.lt_of_lt_of_le hgl hg1.size
  by_cases hm0 : m = 0
  · subst hm0
    go_wp2_with fail
    refine (l91Town_any g _ n _ (by omega) hn2 hn6 hr1).mono ?_
    rintro e w2 ⟨x, rfl, x0, x1, hg2, hr2⟩
    have ho2 := own_pick ho1 hgl hg2
    have hgw2 := grown_same hg1 hg2
    clear ho1 hg1 hg2 hr1
    go_wp2_with fail
    refine (l91Town_any g _ n _ (by omega) hn2 hn6 hr2).mono ?_
    rintro e w3 ⟨y, rfl, y0, y1, hg3, hr3⟩
    have ho3 := own_pick ho2 hgl hg3
    have hgw3 := grown_same hgw2 hg3
    clear ho2 hgw2 hg3 hr2
    go_wp2
    refine bodyPost_ret (by simp [results, Try.results51, go_sem]; rfl) rfl ?_
    exact ⟨n, rs, b, 0, c, x, y, rfl, hn2, hn6, Hl.out, by omega, Hin.out, ⟨x0, x1⟩, ⟨y0, y1⟩, ho3, hgw3, hr3.mono (by omega)⟩
  have hm1 : 0 < m := by omega
  have hm2 : (0 : Int) < (m : Int) := by omega
  go_wp2_with fail
  refine (pick_any g _ 3 _ (by omega) (by omega) (by omega) hr1).mono ?_
  rintro e w2 ⟨v2, rfl, h20, h21, hg2, hr2⟩
  have ho2 := own_pick ho1 hgl hg2
  have hgw2 := grown_same hg1 hg2
  clear ho1 hg1 hg2 hr1
  by_cases c0 : v2 = 0
  · subst c0
    go_wp2_with fail
    refine (pick_any g _ m _ (by omega) (by omega) (by omega) hr2).mono ?_
    rintro e w3 ⟨v3, rfl, h30, h31, hg3, hr3⟩
    have ho3 := own_pick ho2 hgl hg3
    have hgw3 := grown_same hgw2 hg3
    clear ho2 hgw2 hg3 hr2
    obtain ⟨k, rfl⟩ := Int.eq_ofNat_of_zero_le h30
    obtain ⟨hx, hy, hz⟩ := row3_all ho3 (k := k) (by rw [Hl.out]; omega)
    obtain ⟨x0, x1, y0, y1⟩ := Hin.out.at (k := k) (by rw [Hl.out]; omega)
    obtain ⟨x, hxe⟩ : ∃ x, a3 rs k = x := ⟨_, rfl⟩
    obtain ⟨y, hye⟩ : ∃ y, b3 rs k = y := ⟨_, rfl⟩
    obtain ⟨z, hze⟩ : ∃ z, c3 rs k = z := ⟨_, rfl⟩
    rw [hxe] at hx x0 x1
    rw [hye] at hy y0 y1
    rw [hze] at hz
    have ho4 := own_drewB (ho3.alloc (.cells #[.int .i64 x, .int .i64 y, .int .i64 z] 32))
    have hgw4 := grown_drew (grown_alloc hgw3 (.cells #[.int .i64 x, .int .i64 y, .int .i64 z] 32))
    have hr4 : Rdr (w3.alloc (.cells #[.int .i64 x, .int .i64 y, .int .i64 z] 32)).drew g _ := hr3.alloc (.cells #[.int .i64 x, .int .i64 y, .int .i64 z] 32)
    clear ho3 hgw3 hr3 hxe hye hze
    go_wp2
    go_region
    go_wp2
    refine bodyPost_ret (by simp [results, Try.results51, go_sem]; rfl) rfl ?_
    exact ⟨n, rs, b, m, c, y, x, rfl, hn2, hn6, Hl.out, by omega, Hin.out, ⟨by omega, y1⟩, ⟨by omega, x1⟩, ho4, hgw4, hr4.mono (by omega)⟩
  · have d0 : (v2 == 0) = false := by simp [c0]
    clear c0
    go_wp2_with fail
    refine (l91Town_any g _ n _ (by omega) hn2 hn6 hr2).mono ?_
    rintro e w3 ⟨x, rfl, x0, x1, hg3, hr3⟩
    have ho3 := own_pick ho2 hgl hg3
    have hgw3 := grown_same hgw2 hg3
    clear ho2 hgw2 hg3 hr2
    go_wp2_with fail
    refine (l91Town_any g _ n _ (by omega) hn2 hn6 hr3).mono ?_
    rintro e w4 ⟨y, rfl, y0, y1, hg4, hr4⟩
    have ho4 := own_pick ho3 hgl hg4
    have hgw4 := grown_same hgw3 hg4
    clear ho3 hgw3 hg4 hr3
    go_wp2
    refine bodyPost_ret (by simp [results, Try.results51, go_sem]; rfl) rfl ?_
    exact ⟨n, rs, b, m, c, x, y, rfl, hn2, hn6, Hl.out, by omega, Hin.out, ⟨x0, x1⟩, ⟨y0, y1⟩, ho4, hgw4, hr4.mono (by omega)⟩
/-- what a drawing of roads and two towns returns -/
def DrawnTwoB (w : World) (e : Ending) (w' : World) : Prop :=
  ∃ (n : Nat) (rs : List (Int × Int × Int)) (b m c : Nat) (x y : Int), e = .returned (.tuple #[.int .i64 n, .slice (some ⟨b, 0, none⟩) m c, .int .i64 x, .int .i64 y]) ∧ 2 ≤ n ∧ n ≤ 6 ∧ rs.length = m ∧ m ≤ 10 ∧ RdIn rs ∧ (-1 ≤ x ∧ x ≤ 6) ∧ (-1 ≤ y ∧ y ≤ 6) ∧ w'.ownsRow w.heap.size 32 3 (.slice (some ⟨b, 0, none⟩) m c) m (fl3 rs) ∧ Below w.heap.size w w'
set_option maxRecDepth 100000 in
theorem DrawRoadsWay_any (A : Option Addr) (xs : List Int) (n c : Nat) (w : World) (hl : xs.length = n) (hn : n ≤ 1048576) (hc : n ≤ c) (hx : Bytes xs) (hr : Rd w A (flU xs)) :
    Calls Try.prog 27 #[.slice A n c] w (DrawnTwoB w) := by
  go_enter Try.func27, Try.ntmps27
  go_wp2_with fail
  refine (l6Open_any _ xs _ _ _ hl hn hc hx hr).mono ?_
  rintro e w1 ⟨g, rfl, hg, hr1, hb1⟩
  have hgl := hr1.lt
  go_wp2_with fail
  refine (l91Two_any g 0 _ (by omega) hr1).mono ?_
  rintro e w2 ⟨k, rs, b, m, d, x, y, rfl, hn2, hn6, hl2, hm, hin, hX, hY, ho2, hg2, hr2⟩
  have hb2 := below_pick hb1 hg2 hg hb1.size
  have ho := own_base ho2 hb1.size
  clear ho2 hg2 hr2 hr1
  go_wp2
  refine bodyPost_ret (by simp [results, Try.results27, go_sem]; rfl) rfl ?_
  exact ⟨k, rs, b, m, d, x, y, rfl, hn2, hn6, hl2, hm, hin, hX, hY, ho, hb2⟩
set_option maxRecDepth 100000 in
theorem DrawRoadsMany_any (A : Option Addr) (xs : List Int) (n c : Nat) (w : World) (hl : xs.length = n) (hn : n ≤ 1048576) (hc : n ≤ c) (hx : Bytes xs) (hr : Rd w A (flU xs)) :
    Calls Try.prog 25 #[.slice A n c] w (DrawnTwoB w) := by
  go_enter Try.func25, Try.ntmps25
  go_wp2_with fail
  refine (l6Open_any _ xs _ _ _ hl hn hc hx hr).mono ?_
  rintro e w1 ⟨g, rfl, hg, hr1, hb1⟩
  have hgl := hr1.lt
  go_wp2_with fail
  refine (l91Two_any g 0 _ (by omega) hr1).mono ?_
  rintro e w2 ⟨k, rs, b, m, d, x, y, rfl, hn2, hn6, hl2, hm, hin, hX, hY, ho2, hg2, hr2⟩
  have hb2 := below_pick hb1 hg2 hg hb1.size
  have ho := own_base ho2 hb1.size
  clear ho2 hg2 hr2 hr1
  go_wp2
  refine bodyPost_ret (by simp [results, Try.results25, go_sem]; rfl) rfl ?_
  exact ⟨k, rs, b, m, d, x, y, rfl, hn2, hn6, hl2, hm, hin, hX, hY, ho, hb2⟩
end Go.Proofs.Ytdnjeahbnidefaa

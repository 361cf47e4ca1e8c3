/- Walks: drawn roads that often join all towns; drawings of roads alone. -/
import Derived.Test.YtdnjeahbnidefaaDrRo
namespace Go.Proofs.Ytdnjeahbnidefaa
open Go.RowKit

/-- drawn roads, often whole -/
def DrawnW (w : World) (g K : Nat) (e : Ending) (w' : World) : Prop :=
  ∃ (n : Nat) (rs : List (Int × Int × Int)) (b m c : Nat), e = .returned (.tuple #[.int .i64 n, .slice (some ⟨b, 0, none⟩) m c]) ∧ 2 ≤ n ∧ n ≤ 6 ∧ rs.length = m ∧ m ≤ 16 ∧ w'.ownsRow w.heap.size 32 3 (.slice (some ⟨b, 0, none⟩) m c) m (fl3 rs) ∧ w.grownBy w' (some g) ∧ Rdr w' g (K + 120)
set_option maxRecDepth 100000 in
set_option maxHeartbeats 4000000 in
theorem l91Whole_any (g K : Nat) (w : World) (hK : K ≤ 10000000) (hr : Rdr w g K) :
    Calls Try.prog 49 #[.pointer (some ⟨g, 0, none⟩)] w (DrawnW w g K) := by
  have hgl := hr.lt
  go_enter Try.func49, Try.ntmps49
  go_wp2_with fail
  refine (l91Roads_any g K _ (by omega) hr).mono ?_
  rintro e w1 ⟨n, rs0, b0, m0, c0, rfl, hn2, hn6, hl0, hm0, hin, ho0, hg0, hr0⟩
  clear hin hr
  go_wp2
  go_loopw [5, 6] (fun o i wr => ∃ (k L b c : Nat) (rs : List (Int × Int × Int)), 1 ≤ k ∧ k ≤ n ∧ L ≤ 9 + k ∧ i = .int .i64 k ∧ rs.length = L ∧ o = .slice (some ⟨b, 0, none⟩) L c ∧ wr.ownsRow w.heap.size 32 3 (.slice (some ⟨b, 0, none⟩) L c) L (fl3 rs) ∧ w.grownBy wr (some g) ∧ Rdr wr g (K + 80 + 3 * k)) (fun _ i _ => n - (intOf i).toNat)
  case atStart => exact ⟨1, m0, b0, c0, rs0, by omega, by omega, by omega, rfl, hl0, rfl, ho0, hg0, hr0.mono (by omega)⟩
  case round =>
    obtain ⟨k, L, b, c, rs, hk1, hk, hL, rfl, hl, rfl, hown, hgw, hrd⟩ := hrel
    have Hl := hideIt hl
    clear hl ho0 hg0 hr0 hl0
    by_cases hlt : k < n
    · have hlti : (k : Int) < (n : Int) := by omega
      go_wp2_with fail
      refine (pick_any g _ 10 _ (by omega) (by omega) (by omega) hrd).mono ?_
      rintro e w3 ⟨v3, rfl, h30, h31, hgx, hr3⟩
      have hown3 := own_pick hown hgl hgx
      have hgw3 := grown_same hgw hgx
      clear hrd hown hgw hgx
      by_cases h0 : 0 < v3
      · go_wp2_with fail
        refine (pick_any g _ k _ (by omega) (by omega) (by omega) hr3).mono ?_
        rintro e w4 ⟨v4, rfl, h40, h41, hgx, hr4⟩
        have hown4 := own_pick hown3 hgl hgx
        have hgw4 := grown_same hgw3 hgx
        clear hr3 hown3 hgw3 hgx
        go_wp2_with fail
        refine (pick_any g _ 9 _ (by omega) (by omega) (by omega) hr4).mono ?_
        rintro e w5 ⟨v5, rfl, h50, h51, hgx, hr5⟩
        have hown5 := own_pick hown4 hgl hgx
        have hgw5 := grown_same hgw4 hgx
        clear hr4 hown4 hgw4 hgx
        have hw2 : IntKind.i64.wrap (1 + v5) = 1 + v5 := IntWalk.i64_in _ (by omega)
        have Hln := hideIt (show (rs ++ [(v4, (k : Int), 1 + v5)]).length = L + 1 by rw [List.length_append, Hl.out]; rfl)
        cases hv : roadsValid (n : Int) (rs ++ [(v4, (k : Int), 1 + v5)])
        · have Hv := hideIt hv
          clear hv
          go_wp2_with fail
          refine (specRoadsAdd_any _ _ _ _ _ _ _ _ _ Hl.out (by omega) (Rd.of_own hown5)).mono ?_
          rw [roadsAdd_f Hv.out, Hv.out]
          rintro e w7 ⟨A7, c7, rfl, ho7, hb7⟩
          have hown7 := own_below hown5 hb7 (Nat.le_refl _)
          have hgw7 := grown_bel hgw5 hb7
          have hr7 := hr5.bel hb7
          clear ho7 hb7 hown5 hgw5 hr5
          go_wp2
          go_roundw
          case rel => exact ⟨k + 1, L, b, c, rs, by omega, by omega, by omega, by go_num, Hl.out, rfl, hown7, hgw7, hr7.mono (by omega)⟩
          case measure => simp [intOf]; omega
        · have Hv := hideIt hv
          clear hv
          go_wp2_with fail
          refine (specRoadsAdd_any _ _ _ _ _ _ _ _ _ Hl.out (by omega) (Rd.of_own hown5)).mono ?_
          rw [roadsAdd_t Hv.out, Hv.out, Hln.out]
          rintro e w7 ⟨A7, c7, rfl, ho7, hb7⟩
          obtain ⟨b7, rfl, _, _⟩ := own_some ho7 (by omega)
          have hown7 := own_base ho7 hgw5.size
          have hgw7 := grown_bel hgw5 hb7
          have hr7 := hr5.bel hb7
          clear ho7 hb7 hown5 hgw5 hr5
          go_wp2
          go_roundw
          case rel => exact ⟨k + 1, L + 1, b7, c7, rs ++ [(v4, (k : Int), 1 + v5)], by omega, by omega, by omega, by go_num, Hln.out, rfl, hown7, hgw7, hr7.mono (by omega)⟩
          case measure => simp [intOf]; omega
      · obtain rfl : v3 = 0 := by omega
        go_wp2
        go_ret2
        exact ⟨n, rs, b, L, c, rfl, hn2, hn6, Hl.out, by omega, hown3, hgw3, hr3.mono (by omega)⟩
    · obtain rfl : k = n := by omega
      go_wp2
      go_ret2
      exact ⟨k, rs, b, L, c, rfl, hn2, hn6, Hl.out, by omega, hown, hgw, hrd.mono (by omega)⟩
/-- what a drawing of roads returns -/
def DrawnB (w : World) (e : Ending) (w' : World) : Prop :=
  ∃ (n : Nat) (rs : List (Int × Int × Int)) (b m c : Nat), e = .returned (.tuple #[.int .i64 n, .slice (some ⟨b, 0, none⟩) m c]) ∧ 2 ≤ n ∧ n ≤ 6 ∧ rs.length = m ∧ m ≤ 16 ∧ w'.ownsRow w.heap.size 32 3 (.slice (some ⟨b, 0, none⟩) m c) m (fl3 rs) ∧ Below w.heap.size w w'
set_option maxRecDepth 100000 in
theorem DrawRoadsNet_any (A : Option Addr) (xs : List Int) (n c : Nat) (w : World) (hl : xs.length = n) (hn : n ≤ 1048576) (hc : n ≤ c) (hx : Bytes xs) (hr : Rd w A (flU xs)) :
    Calls Try.prog 18 #[.slice A n c] w (DrawnB w) := by
  go_enter Try.func18, Try.ntmps18
  go_wp2_with fail
  refine (l6Open_any _ xs _ _ _ hl hn hc hx hr).mono ?_
  rintro e w1 ⟨g, rfl, hg, hr1, hb1⟩
  have hgl := hr1.lt
  go_wp2_with fail
  refine (l91Whole_any g 0 _ (by omega) hr1).mono ?_
  rintro e w2 ⟨k, rs, b, m, d, rfl, hn2, hn6, hl2, hm, ho2, hg2, hr2⟩
  have hb2 := below_pick hb1 hg2 hg hb1.size
  have ho := own_base ho2 hb1.size
  clear ho2 hg2 hr2 hr1
  go_wp2
  go_ret2
  exact ⟨k, rs, b, m, d, rfl, hn2, hn6, hl2, by omega, ho, hb2⟩
set_option maxRecDepth 100000 in
theorem DrawRoadsWhole_any (A : Option Addr) (xs : List Int) (n c : Nat) (w : World) (hl : xs.length = n) (hn : n ≤ 1048576) (hc : n ≤ c) (hx : Bytes xs) (hr : Rd w A (flU xs)) :
    Calls Try.prog 23 #[.slice A n c] w (DrawnB w) := by
  go_enter Try.func23, Try.ntmps23
  go_wp2_with fail
  refine (l6Open_any _ xs _ _ _ hl hn hc hx hr).mono ?_
  rintro e w1 ⟨g, rfl, hg, hr1, hb1⟩
  have hgl := hr1.lt
  go_wp2_with fail
  refine (l91Roads_any g 0 _ (by omega) hr1).mono ?_
  rintro e w2 ⟨k, rs, b, m, d, rfl, hn2, hn6, hl2, hm, _, ho2, hg2, hr2⟩
  have hb2 := below_pick hb1 hg2 hg hb1.size
  have ho := own_base ho2 hb1.size
  clear ho2 hg2 hr2 hr1
  go_wp2
  go_ret2
  exact ⟨k, rs, b, m, d, rfl, hn2, hn6, hl2, by omega, ho, hb2⟩
set_option maxRecDepth 100000 in
theorem DrawRoadsNeeded_any (A : Option Addr) (xs : List Int) (n c : Nat) (w : World) (hl : xs.length = n) (hn : n ≤ 1048576) (hc : n ≤ c) (hx : Bytes xs) (hr : Rd w A (flU xs)) :
    Calls Try.prog 9 #[.slice A n c] w (DrawnB w) := by
  go_enter Try.func9, Try.ntmps9
  go_wp2_with fail
  refine (l6Open_any _ xs _ _ _ hl hn hc hx hr).mono ?_
  rintro e w1 ⟨g, rfl, hg, hr1, hb1⟩
  have hgl := hr1.lt
  go_wp2_with fail
  refine (l91Roads_any g 0 _ (by omega) hr1).mono ?_
  rintro e w2 ⟨k, rs, b, m, d, rfl, hn2, hn6, hl2, hm, _, ho2, hg2, hr2⟩
  have hb2 := below_pick hb1 hg2 hg hb1.size
  have ho := own_base ho2 hb1.size
  clear ho2 hg2 hr2 hr1
  go_wp2
  go_ret2
  exact ⟨k, rs, b, m, d, rfl, hn2, hn6, hl2, by omega, ho, hb2⟩
set_option maxRecDepth 100000 in
theorem DrawRoadsLength_any (A : Option Addr) (xs : List Int) (n c : Nat) (w : World) (hl : xs.length = n) (hn : n ≤ 1048576) (hc : n ≤ c) (hx : Bytes xs) (hr : Rd w A (flU xs)) :
    Calls Try.prog 30 #[.slice A n c] w (DrawnB w) := by
  go_enter Try.func30, Try.ntmps30
  go_wp2_with fail
  refine (l6Open_any _ xs _ _ _ hl hn hc hx hr).mono ?_
  rintro e w1 ⟨g, rfl, hg, hr1, hb1⟩
  have hgl := hr1.lt
  go_wp2_with fail
  refine (l91Roads_any g 0 _ (by omega) hr1).mono ?_
  rintro e w2 ⟨k, rs, b, m, d, rfl, hn2, hn6, hl2, hm, _, ho2, hg2, hr2⟩
  have hb2 := below_pick hb1 hg2 hg hb1.size
  have ho := own_base ho2 hb1.size
  clear ho2 hg2 hr2 hr1
  go_wp2
  go_ret2
  exact ⟨k, rs, b, m, d, rfl, hn2, hn6, hl2, by omega, ho, hb2⟩
end Go.Proofs.Ytdnjeahbnidefaa

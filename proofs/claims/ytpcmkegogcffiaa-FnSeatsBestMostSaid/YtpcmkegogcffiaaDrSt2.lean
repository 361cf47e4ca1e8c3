/- Walks: drawn stretches, indexes, and the drawings over bookings. -/
import Derived.Test.YtpcmkegogcffiaaDrSt
namespace Go.Proofs.Ytpcmkegogcffiaa
open Go.RowKit

set_option maxRecDepth 100000 in
set_option maxHeartbeats 1000000 in
theorem l92Stretch_any (g K n : Nat) (w : World) (hK : K ≤ 1000000) (n1 : 1 ≤ n) (n6 : n ≤ 6) (hr : Rdr w g K) :
    Calls Try.prog 59 #[.pointer (some ⟨g, 0, none⟩), .int .i64 n] w fun e w' => ∃ f t : Nat, e = .returned (.tuple #[.int .i64 f, .int .i64 t]) ∧ f < n ∧ t ≤ n + 1 ∧ w.grownBy w' (some g) ∧ Rdr w' g (K + 3) := by
  go_enter Try.func59, Try.ntmps59
  go_wp2_with fail
  refine (pick_any g K n _ (by omega) (by omega) (by omega) hr).mono ?_
  rintro e w1 ⟨v1, rfl, h10, h11, hg1, hr1⟩
  obtain ⟨f, rfl⟩ := Int.eq_ofNat_of_zero_le h10
  go_wp2_with fail
  refine (pick_any g _ 20 _ (by omega) (by omega) (by omega) hr1).mono ?_
  rintro e w2 ⟨v2, rfl, h20, h21, hg2, hr2⟩
  have hg := grown_same hg1 hg2
  clear hg1 hg2 hr1 hr
  by_cases c0 : v2 = 0
  · subst c0
    go_wp2
    go_ret2
    exact ⟨f, f, rfl, by omega, by omega, hg, hr2.mono (by omega)⟩
  · by_cases c1 : v2 = 1
    · subst c1
      clear c0
      go_wp2
      go_ret2
      exact ⟨f, n + 1, by go_num, by omega, by omega, hg, hr2.mono (by omega)⟩
    · have d0 : (v2 == 0) = false := by simp [c0]
      have d1 : (v2 == 1) = false := by simp [c1]
      clear c0 c1
      go_wp2_with fail
      refine (pick_any g _ ((n : Int) - f) _ (by omega) (by omega) (by omega) hr2).mono ?_
      rintro e w3 ⟨v3, rfl, h30, h31, hg3, hr3⟩
      obtain ⟨u, rfl⟩ := Int.eq_ofNat_of_zero_le h30
      have hgf := grown_same hg hg3
      go_wp2
      go_ret2
      exact ⟨f, f + 1 + u, by go_num, by omega, by omega, hgf, hr3⟩
theorem pair2_at (w : World) (a b : Int) (t : TypeId) {v : Int} (h0 : 0 ≤ v) (h1 : v < 2) (ha : -1 ≤ a ∧ a ≤ b) : ∃ u : Int, (-1 ≤ u ∧ u ≤ b) ∧ (#[Value.int .i64 a, Value.int .i64 b])[v.toNat]? = some (.int .i64 u) := by
  rcases (show v = 0 ∨ v = 1 by omega) with rfl | rfl
  · exact ⟨a, ha, rfl⟩
  · exact ⟨b, ⟨by omega, by omega⟩, rfl⟩
theorem cell_new_pick2 {w w' : World} {g : Nat} (hgl : g < w.heap.size) (cs : Array Value) (t : TypeId) (hg : (w.alloc (.cells cs t)).grownBy w' (some g)) : w'.heap[w.heap.size]? = some (.cells cs t) :=
  (hg.block w.heap.size (by simp) (fun e => by have := Option.some.inj e; omega)).trans (heap_alloc_new w _)
set_option maxRecDepth 100000 in
set_option maxHeartbeats 1000000 in
theorem l92At_any (g K n : Nat) (w : World) (hK : K ≤ 1000000) (n6 : n ≤ 100000) (hr : Rdr w g K) :
    Calls Try.prog 77 #[.pointer (some ⟨g, 0, none⟩), .int .i64 n] w fun e w' => ∃ v : Int, e = .returned (.int .i64 v) ∧ -1 ≤ v ∧ v ≤ n ∧ w.grownBy w' (some g) ∧ Rdr w' g (K + 3) := by
  have hgl := hr.lt
  by_cases hn : n = 0
  · subst hn
    go_enter Try.func77, Try.ntmps77
    go_wp2_with fail
    refine (pick_any g _ 2 _ (by omega) (by omega) (by omega) (hr.alloc _)).mono ?_
    rintro e w3 ⟨v3, rfl, h30, h31, hg3, hr3⟩
    have hnw := cell_new_pick2 hgl _ _ hg3
    obtain ⟨u, ⟨u0, u1⟩, hval0⟩ := pair2_at w (-1) 0 0 h30 h31 (by omega)
    have hval : w3.cell? ⟨w.heap.size, v3.toNat, none⟩ = some (.int .i64 u) := (cell_of_row w3 w.heap.size v3.toNat _ _ _ hnw).trans hval0
    have hgf := grown_same (grown_alloc (grown_refl w (some g)) _) hg3
    clear hnw hval0 hg3
    go_wp2
    go_ret
    exact ⟨u, rfl, by omega, by omega, hgf, hr3.mono (by omega)⟩
  · have hd : ((n : Int) == 0) = false := by simp; omega
    go_enter Try.func77, Try.ntmps77
    go_wp2_with fail
    refine (pick_any g _ 20 _ (by omega) (by omega) (by omega) hr).mono ?_
    rintro e w2 ⟨v2, rfl, h20, h21, hg2, hr2⟩
    by_cases c0 : v2 = 0
    · subst c0
      have hgl2 := hr2.lt
      go_wp2_with fail
      refine (pick_any g _ 2 _ (by omega) (by omega) (by omega) (hr2.alloc _)).mono ?_
      rintro e w3 ⟨v3, rfl, h30, h31, hg3, hr3⟩
      have hnw := cell_new_pick2 hgl2 _ _ hg3
      obtain ⟨u, ⟨u0, u1⟩, hval0⟩ := pair2_at w (-1) n 0 h30 h31 (by omega)
      have hval : w3.cell? ⟨w2.heap.size, v3.toNat, none⟩ = some (.int .i64 u) := (cell_of_row w3 w2.heap.size v3.toNat _ _ _ hnw).trans hval0
      have hgf := grown_same (grown_alloc hg2 _) hg3
      clear hnw hval0 hg3 hn
      go_wp2
      go_ret
      exact ⟨u, rfl, by omega, by omega, hgf, hr3.mono (by omega)⟩
    · have d0 : (v2 == 0) = false := by simp [c0]
      have hn1 : 1 ≤ n := by omega
      clear c0 hn
      go_wp2_with fail
      refine (pick_any g _ n _ (by omega) (by omega) (by omega) hr2).mono ?_
      rintro e w3 ⟨v3, rfl, h30, h31, hg3, hr3⟩
      have hgf := grown_same hg2 hg3
      go_wp2
      go_ret
      exact ⟨v3, rfl, by omega, by omega, hgf, hr3.mono (by omega)⟩
set_option maxRecDepth 100000 in
set_option maxHeartbeats 2000000 in
theorem DrawSeatsFull_any (A : Option Addr) (xs : List Int) (n c : Nat) (w : World) (hl : xs.length = n) (hn : n ≤ 1048576) (hc : n ≤ c) (hx : Bytes xs) (hr : Rd w A (flU xs)) :
    Calls Try.prog 12 #[.slice A n c] w (DrawnBL w) := by
  go_enter Try.func12, Try.ntmps12
  go_wp2_with fail
  refine (l6Open_any _ xs _ _ _ hl hn hc hx hr).mono ?_
  rintro e w1 ⟨g, rfl, hg, hr1, hb1⟩
  go_wp2_with fail
  refine (l92Bookings_any g 0 _ (by omega) hr1).mono ?_
  rintro e w2 ⟨nn, ls, b, m, c2, rfl, n1, n6, hl2, hm2, ho2, hg2, hr2⟩
  have hgl := hr1.lt
  have hz1 := hb1.size
  clear hr hr1
  go_wp2
  go_loopw [6, 7] (fun o i wr => ∃ (k m b c : Nat) (ls : List (Int × Int × Bool)), k ≤ 14 ∧ i = .int .i64 k ∧ ls.length = m ∧ m ≤ 16 ∧ o = .slice (some ⟨b, 0, none⟩) m c ∧ wr.ownsRow w1.heap.size 40 3 (.slice (some ⟨b, 0, none⟩) m c) m (flB ls) ∧ w1.grownBy wr (some g) ∧ Rdr wr g (64 + 2 * k)) (fun _ i _ => 14 - (intOf i).toNat)
  case atStart => exact ⟨0, m, b, c2, ls, by omega, rfl, hl2, hm2, rfl, ho2, hg2, hr2.mono (by omega)⟩
  case round =>
    clear ho2 hg2 hr2 hl2 hm2
    obtain ⟨k, m, b, c, ls, hk, rfl, hl3, m16, rfl, hown, hgw, hrd⟩ := hrel
    have Hl := hideIt hl3
    clear hl3
    by_cases hlt : k < 14
    · go_wp2_with fail
      refine (pick_any g _ 8 _ (by omega) (by omega) (by omega) hrd).mono ?_
      rintro e w3 ⟨v3, rfl, h30, h31, hg3, hr3⟩
      have hown3 := own_pick hown hgl hg3
      have hgw3 := grown_same hgw hg3
      clear hrd hown hgw hg3
      by_cases c0 : 0 < v3
      · go_wp2_with fail
        refine (pick_any g _ nn _ (by omega) (by omega) (by omega) hr3).mono ?_
        rintro e w4 ⟨v4, rfl, h40, h41, hg4, hr4⟩
        have hown4 := own_pick hown3 hgl hg4
        have hgw4 := grown_same hgw3 hg4
        clear hr3 hown3 hgw3 hg4
        go_wp2_with fail
        refine (specSeatsBook_any nn _ ls m c _ _ _ _ Hl.out (by omega) (Rd.of_own hown4)).mono ?_
        rintro e w6 ⟨A6, c6, rfl, ho6, hb6⟩
        have hgw6 := grown_bel hgw4 hb6
        have hr6 := hr4.bel hb6
        have hown6 := own_below hown4 hb6 (Nat.le_refl _)
        have hsz := hgw4.size
        obtain ⟨bk, hbk⟩ : ∃ bk, ((0, 1 + v4, (k : Int) % 3 == 0) : Int × Int × Bool) = bk := ⟨_, rfl⟩
        rw [hbk] at ho6 ⊢
        clear hbk hown4 hgw4 hr4 hb6
        cases hok : bookOk nn ls bk
        · clear ho6 hok
          go_wp2
          go_roundw
          case rel => exact ⟨k + 1, m, b, c, ls, by omega, by go_num, Hl.out, by omega, rfl, hown6, hgw6, hr6.mono (by omega)⟩
          case measure => simp [intOf]; omega
        · have hsb := seatsBook_t hok
          have hlen : (ls ++ [bk]).length = m + 1 := by rw [List.length_append, Hl.out]; rfl
          have h16 := (bValid_parts (bookOk_t hok).2).2.2.1
          rw [hlen] at h16
          rw [hsb, hlen] at ho6
          obtain ⟨b6, rfl, hb60, hb61⟩ := own_some ho6 (by omega)
          have ho7 := own_base ho6 hsz
          have Hlen := hideIt hlen
          have Hq := hideIt (show (seatsBook nn ls bk).length = m + 1 by rw [hsb, hlen])
          rw [Hq.out]
          clear ho6 hok hsb hlen
          go_wp2
          go_roundw
          case rel => exact ⟨k + 1, m + 1, b6, c6, ls ++ [bk], by omega, by go_num, Hlen.out, by omega, rfl, ho7, hgw6, hr6.mono (by omega)⟩
          case measure => simp [intOf]; omega
      · go_wp2
        go_ret2
        exact ⟨nn, ls, b, m, c, rfl, n1, n6, Hl.out, m16, own_base hown3 hz1, below_pick hb1 hgw3 hg hz1⟩
    · go_wp2
      go_ret2
      exact ⟨nn, ls, b, m, c, rfl, n1, n6, Hl.out, m16, own_base hown hz1, below_pick hb1 hgw hg hz1⟩
end Go.Proofs.Ytpcmkegogcffiaa

/- Walks: the drawn roads in parts, 3: with two miles and an owner. -/
import Derived.Test.YtfnpkbfgemcbaaaDrPa2
import Derived.Deep.RegionWith
namespace Go.Proofs.Ytfnpkbfgemcbaaa
open Go.RowKit

theorem cell_new_pickD {w w' : World} {g : Nat} (hgl : g < w.heap.size) (cs : Array Value) (t : TypeId) (hg : (w.alloc (.cells cs t)).drew.grownBy w' (some g)) : w'.heap[w.heap.size]? = some (.cells cs t) :=
  (hg.block w.heap.size (by simp) (fun e => by have := Option.some.inj e; omega)).trans (heap_alloc_new w _)
theorem ownDr {w : World} {base t size n : Nat} {v : Value} {xs : List Value} (h : w.ownsRow base t size v n xs) : w.drew.ownsRow base t size v n xs := h
theorem grown_dr {w w' : World} {r : Option Nat} (h : w.grownBy w' r) : w.grownBy w'.drew r := ⟨h.os, h.tape, h.output, h.size, h.block⟩
/-- a drawn list and two numbers -/
def DrawnMile (w : World) (g K : Nat) (e : Ending) (w' : World) : Prop :=
  ∃ (ps : List (Int × Int)) (a : Addr) (n c : Nat) (f t : Int), e = .returned (.tuple #[.slice (some a) n c, .int .i64 f, .int .i64 t]) ∧ ps.length = n ∧ n ≤ 64 ∧ w'.ownsRow w.heap.size 38 2 (.slice (some a) n c) n (fl2 ps) ∧ w.grownBy w' (some g) ∧ Rdr w' g (K + 70)
theorem DrawnMile.put {w w' : World} {g K n c : Nat} {A : Addr} {ps : List (Int × Int)} (hl : ps.length = n) (hn : n ≤ 64) (ho : w'.ownsRow w.heap.size 38 2 (.slice (some A) n c) n (fl2 ps)) (hg : w.grownBy w' (some g)) (hr : Rdr w' g (K + 70)) (f t : Int) :
    DrawnMile w g K (.returned (.tuple #[.slice (some A) n c, .int .i64 f, .int .i64 t])) w' := ⟨ps, A, n, c, f, t, rfl, hl, hn, ho, hg, hr⟩
set_option maxRecDepth 100000 in
set_option maxHeartbeats 4000000 in
theorem l92Mile_any (g K : Nat) (w : World) (hK : K ≤ 10000000) (hr : Rdr w g K) :
    Calls Try.prog 55 #[.pointer (some ⟨g, 0, none⟩)] w (DrawnMile w g K) := by
  have hgl := hr.lt
  go_enter Try.func55, Try.ntmps55
  go_wp2_with fail
  refine (l92Parts_any g K _ (by omega) hr).mono ?_
  rintro e w2 ⟨ps, A2, n2, c2, rfl, hl2, hn2, ho2, hg2, hr2⟩
  have Hl2 := hideIt hl2
  clear hl2
  obtain ⟨P, hP⟩ : ∃ P, partsLength ps = P := ⟨_, rfl⟩
  have hP1 := partsLength_in ps
  rw [hP] at hP1
  have HP := hideIt hP
  obtain ⟨P0, P9⟩ := hP1
  clear hP
  go_wp2_with fail
  refine (specPartsLength_any _ _ _ _ _ Hl2.out (by omega) (Rd.of_own ho2)).mono ?_
  rw [HP.out]
  rintro e w3 ⟨rfl, hb3⟩
  have ho3 := own_below ho2 hb3 (Nat.le_refl _)
  have hg3 : w.grownBy w3 (some g) := grown_new hg2 ⟨hb3.os, hb3.tape, hb3.output, hb3.size, fun k hk _ => hb3.block k hk⟩ (row := none) (fun k e => by cases e)
  have hr3 : Rdr w3 g (K + 64) := hr2.grown (row := none) ⟨hb3.os, hb3.tape, hb3.output, hb3.size, fun k hk _ => hb3.block k hk⟩ (fun k e => by cases e)
  clear hb3 ho2 hr2 hg2 hr
  have hwV : ∀ v4 : Int, 0 ≤ v4 → v4 ≤ 1188 → IntKind.i64.wrap (P - v4) = P - v4 := fun v4 h1 h2 => IntWalk.i64_in _ (by omega)
  clear hwV
  rcases Int.lt_trichotomy P 1 with hc | hc | hc
  · have hwN : IntKind.i64.wrap (2) = 2 := IntWalk.i64_in _ (by omega)
    go_wp2_with fail
    refine (pick_any g _ 1 _ (by omega) (by omega) (by omega) hr3).mono ?_
    rintro e w4 ⟨v4, rfl, h40, h41, hg4, hr4⟩
    have ho4 := own_pick ho3 hgl hg4
    have hgw4 := grown_same hg3 hg4
    clear ho3 hg3 hg4 hr3
    go_wp2_with fail
    refine (pick_any g _ 20 _ (by omega) (by omega) (by omega) hr4).mono ?_
    rintro e w5 ⟨v5, rfl, h50, h51, hg5, hr5⟩
    have ho5 := own_pick ho4 hgl hg5
    have hgw5 := grown_same hgw4 hg5
    have hgl5 := Nat.lt_of_lt_of_le hgl hgw5.size
    clear ho4 hgw4 hg5 hr4
    by_cases c0 : v5 = 0
    · subst c0
      have hgw5s := hgw5.size
      go_wp2_with fail
      go_region_with (first
          | (go_at_call 46
             refine (pick_any g _ 2 _ (by omega) (by omega) (by omega) ((hr5.alloc (.cells #[.int .i64 v4, .int .i64 (2)] 3)).drewN 1)).mono ?_
             rintro e w6 ⟨v6, rfl, h60, h61, hg6, hr6⟩
             have hnw := cell_new_pickD hgl5 _ _ hg6
             obtain ⟨u, hu, _⟩ := two_at v4 (2) h60 h61
             have hval := (cell_of_row w6 w5.heap.size v6.toNat _ _ _ hnw).trans hu
             have HO := DrawnMile.put Hl2.out hn2 (own_pick (ownDr (ho5.alloc (.cells #[.int .i64 v4, .int .i64 (2)] 3))) hgl hg6) (grown_same (grown_dr (grown_alloc hgw5 (.cells #[.int .i64 v4, .int .i64 (2)] 3))) hg6) (hr6.mono (show K + 64 + 1 + 1 + 1 ≤ K + 70 by omega))
             clear hu hnw)
          | (go_at_call 46
             refine (pick_any g _ 2 _ (by omega) (by omega) (by omega) (hr5.drewN 1)).mono ?_
             rintro e w6 ⟨v6, rfl, h60, h61, hg6, hr6⟩
             obtain ⟨u, hu, _⟩ := two_at v4 (2) h60 h61
             have hval : (w6.alloc (.cells #[.int .i64 v4, .int .i64 (2)] 3)).cell? ⟨w6.heap.size, v6.toNat, none⟩ = some (.int .i64 u) := (cell_of_row _ w6.heap.size v6.toNat _ _ _ (heap_alloc_new w6 _)).trans hu
             have HO := DrawnMile.put Hl2.out hn2 ((own_pick (ownDr ho5) hgl hg6).alloc (.cells #[.int .i64 v4, .int .i64 (2)] 3)) (grown_alloc (grown_same (grown_dr hgw5) hg6) (.cells #[.int .i64 v4, .int .i64 (2)] 3)) ((hr6.alloc (.cells #[.int .i64 v4, .int .i64 (2)] 3)).mono (show K + 64 + 1 + 1 + 1 ≤ K + 70 by omega))
             clear hu))
      all_goals
        go_wp2
        go_ret3
        exact HO _ _
    · have d0 : (v5 == 0) = false := by simp [c0]
      clear c0
      go_wp2_with fail
      refine (pick_any g _ (1 - v4) _ (by omega) (by omega) (by omega) hr5).mono ?_
      rintro e w6 ⟨v6, rfl, h60, h61, hg6, hr6⟩
      have HO := DrawnMile.put Hl2.out hn2 (own_pick ho5 hgl hg6) (grown_same hgw5 hg6) (hr6.mono (show K + 64 + 1 + 1 + 1 ≤ K + 70 by omega))
      clear ho5 hgw5 hg6 hr5
      go_wp2
      go_ret3
      exact HO _ _
  · subst hc
    have hwN : IntKind.i64.wrap (2) = 2 := IntWalk.i64_in _ (by omega)
    go_wp2_with fail
    refine (pick_any g _ 1 _ (by omega) (by omega) (by omega) hr3).mono ?_
    rintro e w4 ⟨v4, rfl, h40, h41, hg4, hr4⟩
    have ho4 := own_pick ho3 hgl hg4
    have hgw4 := grown_same hg3 hg4
    clear ho3 hg3 hg4 hr3
    go_wp2_with fail
    refine (pick_any g _ 20 _ (by omega) (by omega) (by omega) hr4).mono ?_
    rintro e w5 ⟨v5, rfl, h50, h51, hg5, hr5⟩
    have ho5 := own_pick ho4 hgl hg5
    have hgw5 := grown_same hgw4 hg5
    have hgl5 := Nat.lt_of_lt_of_le hgl hgw5.size
    clear ho4 hgw4 hg5 hr4
    by_cases c0 : v5 = 0
    · subst c0
      have hgw5s := hgw5.size
      go_wp2_with fail
      go_region_with (first
          | (go_at_call 46
             refine (pick_any g _ 2 _ (by omega) (by omega) (by omega) ((hr5.alloc (.cells #[.int .i64 v4, .int .i64 (2)] 3)).drewN 1)).mono ?_
             rintro e w6 ⟨v6, rfl, h60, h61, hg6, hr6⟩
             have hnw := cell_new_pickD hgl5 _ _ hg6
             obtain ⟨u, hu, _⟩ := two_at v4 (2) h60 h61
             have hval := (cell_of_row w6 w5.heap.size v6.toNat _ _ _ hnw).trans hu
             have HO := DrawnMile.put Hl2.out hn2 (own_pick (ownDr (ho5.alloc (.cells #[.int .i64 v4, .int .i64 (2)] 3))) hgl hg6) (grown_same (grown_dr (grown_alloc hgw5 (.cells #[.int .i64 v4, .int .i64 (2)] 3))) hg6) (hr6.mono (show K + 64 + 1 + 1 + 1 ≤ K + 70 by omega))
             clear hu hnw)
          | (go_at_call 46
             refine (pick_any g _ 2 _ (by omega) (by omega) (by omega) (hr5.drewN 1)).mono ?_
             rintro e w6 ⟨v6, rfl, h60, h61, hg6, hr6⟩
             obtain ⟨u, hu, _⟩ := two_at v4 (2) h60 h61
             have hval : (w6.alloc (.cells #[.int .i64 v4, .int .i64 (2)] 3)).cell? ⟨w6.heap.size, v6.toNat, none⟩ = some (.int .i64 u) := (cell_of_row _ w6.heap.size v6.toNat _ _ _ (heap_alloc_new w6 _)).trans hu
             have HO := DrawnMile.put Hl2.out hn2 ((own_pick (ownDr ho5) hgl hg6).alloc (.cells #[.int .i64 v4, .int .i64 (2)] 3)) (grown_alloc (grown_same (grown_dr hgw5) hg6) (.cells #[.int .i64 v4, .int .i64 (2)] 3)) ((hr6.alloc (.cells #[.int .i64 v4, .int .i64 (2)] 3)).mono (show K + 64 + 1 + 1 + 1 ≤ K + 70 by omega))
             clear hu))
      all_goals
        go_wp2
        go_ret3
        exact HO _ _
    · have d0 : (v5 == 0) = false := by simp [c0]
      clear c0
      go_wp2_with fail
      refine (pick_any g _ (1 - v4) _ (by omega) (by omega) (by omega) hr5).mono ?_
      rintro e w6 ⟨v6, rfl, h60, h61, hg6, hr6⟩
      have HO := DrawnMile.put Hl2.out hn2 (own_pick ho5 hgl hg6) (grown_same hgw5 hg6) (hr6.mono (show K + 64 + 1 + 1 + 1 ≤ K + 70 by omega))
      clear ho5 hgw5 hg6 hr5
      go_wp2
      go_ret3
      exact HO _ _
  · have hwN : IntKind.i64.wrap (P + 1) = P + 1 := IntWalk.i64_in _ (by omega)
    go_wp2_with fail
    refine (pick_any g _ P _ (by omega) (by omega) (by omega) hr3).mono ?_
    rintro e w4 ⟨v4, rfl, h40, h41, hg4, hr4⟩
    have ho4 := own_pick ho3 hgl hg4
    have hgw4 := grown_same hg3 hg4
    clear ho3 hg3 hg4 hr3
    go_wp2_with fail
    refine (pick_any g _ 20 _ (by omega) (by omega) (by omega) hr4).mono ?_
    rintro e w5 ⟨v5, rfl, h50, h51, hg5, hr5⟩
    have ho5 := own_pick ho4 hgl hg5
    have hgw5 := grown_same hgw4 hg5
    have hgl5 := Nat.lt_of_lt_of_le hgl hgw5.size
    clear ho4 hgw4 hg5 hr4
    by_cases c0 : v5 = 0
    · subst c0
      have hgw5s := hgw5.size
      go_wp2_with fail
      go_region_with (first
          | (go_at_call 46
             refine (pick_any g _ 2 _ (by omega) (by omega) (by omega) ((hr5.alloc (.cells #[.int .i64 v4, .int .i64 (P + 1)] 3)).drewN 1)).mono ?_
             rintro e w6 ⟨v6, rfl, h60, h61, hg6, hr6⟩
             have hnw := cell_new_pickD hgl5 _ _ hg6
             obtain ⟨u, hu, _⟩ := two_at v4 (P + 1) h60 h61
             have hval := (cell_of_row w6 w5.heap.size v6.toNat _ _ _ hnw).trans hu
             have HO := DrawnMile.put Hl2.out hn2 (own_pick (ownDr (ho5.alloc (.cells #[.int .i64 v4, .int .i64 (P + 1)] 3))) hgl hg6) (grown_same (grown_dr (grown_alloc hgw5 (.cells #[.int .i64 v4, .int .i64 (P + 1)] 3))) hg6) (hr6.mono (show K + 64 + 1 + 1 + 1 ≤ K + 70 by omega))
             clear hu hnw)
          | (go_at_call 46
             refine (pick_any g _ 2 _ (by omega) (by omega) (by omega) (hr5.drewN 1)).mono ?_
             rintro e w6 ⟨v6, rfl, h60, h61, hg6, hr6⟩
             obtain ⟨u, hu, _⟩ := two_at v4 (P + 1) h60 h61
             have hval : (w6.alloc (.cells #[.int .i64 v4, .int .i64 (P + 1)] 3)).cell? ⟨w6.heap.size, v6.toNat, none⟩ = some (.int .i64 u) := (cell_of_row _ w6.heap.size v6.toNat _ _ _ (heap_alloc_new w6 _)).trans hu
             have HO := DrawnMile.put Hl2.out hn2 ((own_pick (ownDr ho5) hgl hg6).alloc (.cells #[.int .i64 v4, .int .i64 (P + 1)] 3)) (grown_alloc (grown_same (grown_dr hgw5) hg6) (.cells #[.int .i64 v4, .int .i64 (P + 1)] 3)) ((hr6.alloc (.cells #[.int .i64 v4, .int .i64 (P + 1)] 3)).mono (show K + 64 + 1 + 1 + 1 ≤ K + 70 by omega))
             clear hu))
      all_goals
        go_wp2
        go_ret3
        exact HO _ _
    · have d0 : (v5 == 0) = false := by simp [c0]
      clear c0
      go_wp2_with fail
      refine (pick_any g _ (P - v4) _ (by omega) (by omega) (by omega) hr5).mono ?_
      rintro e w6 ⟨v6, rfl, h60, h61, hg6, hr6⟩
      have HO := DrawnMile.put Hl2.out hn2 (own_pick ho5 hgl hg6) (grown_same hgw5 hg6) (hr6.mono (show K + 64 + 1 + 1 + 1 ≤ K + 70 by omega))
      clear ho5 hgw5 hg6 hr5
      go_wp2
      go_ret3
      exact HO _ _
/-- a drawn list and three numbers, in a new world -/
def DrawnSell (w : World) (e : Ending) (w' : World) : Prop :=
  ∃ (ps : List (Int × Int)) (a : Addr) (n c : Nat) (f t o : Int), e = .returned (.tuple #[.slice (some a) n c, .int .i64 f, .int .i64 t, .int .i64 o]) ∧ ps.length = n ∧ n ≤ 64 ∧ w'.ownsRow w.heap.size 38 2 (.slice (some a) n c) n (fl2 ps) ∧ Below w.heap.size w w'
set_option maxRecDepth 100000 in
set_option maxHeartbeats 1000000 in
theorem DrawPartsSell_any (A : Option Addr) (xs : List Int) (n c : Nat) (w : World) (hl : xs.length = n) (hn : n ≤ 1048576) (hc : n ≤ c) (hx : Bytes xs) (hr : Rd w A (flU xs)) :
    Calls Try.prog 27 #[.slice A n c] w (DrawnSell w) := by
  go_enter Try.func27, Try.ntmps27
  go_wp2_with fail
  refine (l6Open_any _ xs _ _ _ hl hn hc hx hr).mono ?_
  rintro e w1 ⟨g, rfl, hg, hr1, hb1⟩
  have hgl := hr1.lt
  go_wp2_with fail
  refine (l92Mile_any g 0 _ (by omega) hr1).mono ?_
  rintro e w2 ⟨ps, A2, n2, c2, f, t, rfl, hl2, hn2, ho2, hg2, hr2⟩
  have hb2 := below_pick hb1 hg2 hg hb1.size
  have Hl2 := hideIt hl2
  clear hl2
  go_wp2_with fail
  refine (pick_any g _ 6 _ (by omega) (by omega) (by omega) hr2).mono ?_
  rintro e w3 ⟨v3, rfl, h30, h31, hg3, hr3⟩
  have hb3 := below_pick hb2 hg3 hg hb2.size
  have ho3 := own_pick ho2 hgl hg3
  clear hb2 ho2 hr2 hg3
  go_wp2_with fail
  refine (pick_any g _ 20 _ (by omega) (by omega) (by omega) hr3).mono ?_
  rintro e w4 ⟨v4, rfl, h40, h41, hg4, hr4⟩
  have hb4 := below_pick hb3 hg4 hg hb3.size
  have ho4 := own_pick ho3 hgl hg4
  have HO : ∀ o : Int, DrawnSell w (.returned (.tuple #[.slice (some A2) n2 c2, .int .i64 f, .int .i64 t, .int .i64 o])) w4 := fun o => ⟨ps, A2, n2, c2, f, t, o, rfl, Hl2.out, hn2, own_base ho4 hb1.size, hb4⟩
  clear hb3 ho3 hr3 hg4 ho4 hb4 hr4
  go_wp2
  refine bodyPost_ret (by simp [results, Try.results27, go_sem]; rfl) rfl ?_
  exact HO _
end Go.Proofs.Ytfnpkbfgemcbaaa

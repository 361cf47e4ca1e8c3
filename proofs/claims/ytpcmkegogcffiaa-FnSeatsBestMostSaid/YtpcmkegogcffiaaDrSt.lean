/- Walks: the drawn bookings. -/
import Derived.Test.YtpcmkegogcffiaaDraw
import Derived.Test.YtpcmkegogcffiaaSt12
import Derived.Deep.DeepCutAuto
namespace Go.Proofs.Ytpcmkegogcffiaa
open Go.RowKit

theorem cell_new_pick {w w' : World} {g : Nat} (hgl : g < w.heap.size) (cs : Array Value) (t : TypeId) (hg : (w.alloc (.cells cs t)).drew.grownBy w' (some g)) : w'.heap[w.heap.size]? = some (.cells cs t) :=
  (hg.block w.heap.size (by simp) (fun e => by have := Option.some.inj e; omega)).trans (heap_alloc_new w _)
def DrawnB (w : World) (g K : Nat) (e : Ending) (w' : World) : Prop :=
  ∃ (n : Nat) (ls : List (Int × Int × Bool)) (b m c : Nat), e = .returned (.tuple #[.int .i64 n, .slice (some ⟨b, 0, none⟩) m c]) ∧ 1 ≤ n ∧ n ≤ 6 ∧ ls.length = m ∧ m ≤ 16 ∧ w'.ownsRow w.heap.size 40 3 (.slice (some ⟨b, 0, none⟩) m c) m (flB ls) ∧ w.grownBy w' (some g) ∧ Rdr w' g (K + 64)
theorem rowB_storeb {w : World} {base t g cap n : Nat} {xs : List (Int × Int × Bool)} (h : w.ownsRow base t 3 (.slice (some ⟨g, 0, none⟩) n cap) n (flB xs)) {k : Nat} (hk : k < xs.length) (b : Int) :
    (w.setCell ⟨g, k * 3 + 1, none⟩ (.int .i64 b)).ownsRow base t 3 (.slice (some ⟨g, 0, none⟩) n cap) n (flB (xs.set k (aB xs k, b, cB xs k))) := by
  have h1 := (h.stored (k * 3 + 1) (.int .i64 b)).1
  have e1 : (flB xs).set (k * 3 + 1) (.int .i64 b) = flB (xs.set k (aB xs k, b, cB xs k)) := flat_set encB 3 encB_len xs k 1 _ _ _ (getD_some xs k (0, 0, false) hk) (by omega) rfl
  rw [e1] at h1
  exact h1
theorem rowB_storea {w : World} {base t g cap n : Nat} {xs : List (Int × Int × Bool)} (h : w.ownsRow base t 3 (.slice (some ⟨g, 0, none⟩) n cap) n (flB xs)) {k : Nat} (hk : k < xs.length) (a : Int) :
    (w.setCell ⟨g, k * 3, none⟩ (.int .i64 a)).ownsRow base t 3 (.slice (some ⟨g, 0, none⟩) n cap) n (flB (xs.set k (a, bB xs k, cB xs k))) := by
  have h1 := (h.stored (k * 3) (.int .i64 a)).1
  have e1 : (flB xs).set (k * 3) (.int .i64 a) = flB (xs.set k (a, bB xs k, cB xs k)) := flat_set encB 3 encB_len xs k 0 _ _ _ (getD_some xs k (0, 0, false) hk) (by omega) rfl
  rw [e1] at h1
  exact h1
theorem Rdr.drew {w : World} {g K : Nat} (h : Rdr w g K) : Rdr w.drew g K := h
theorem pair_at (a b : Int) {v : Int} (h0 : 0 ≤ v) (h1 : v < 2) : ∃ u : Int, (#[Value.int .i64 a, Value.int .i64 b])[v.toNat]? = some (.int .i64 u) := by
  rcases (show v = 0 ∨ v = 1 by omega) with rfl | rfl
  · exact ⟨a, rfl⟩
  · exact ⟨b, rfl⟩
theorem own_drewB {w : World} {base t size n : Nat} {v : Value} {xs : List Value} (h : w.ownsRow base t size v n xs) : w.drew.ownsRow base t size v n xs := h
theorem grown_drew {w w' : World} {r : Option Nat} (h : w.grownBy w' r) : w.grownBy w'.drew r := ⟨h.os, h.tape, h.output, h.size, h.block⟩
theorem grown_bel {w w1 w2 : World} {g : Nat} (h : w.grownBy w1 (some g)) (hb : Below w1.heap.size w1 w2) : w.grownBy w2 (some g) := grown_new h (grown_below hb (Nat.le_refl _) none) (fun k e => by cases e)
theorem Rdr.bel {w w' : World} {g K : Nat} (h : Rdr w g K) (hb : Below w.heap.size w w') : Rdr w' g K := h.grown (grown_below hb (Nat.le_refl _) none) (fun k e => by cases e)

set_option maxRecDepth 100000 in
set_option maxHeartbeats 4000000 in
theorem l92Bookings_any (g K : Nat) (w : World) (hK : K ≤ 100000000) (hr : Rdr w g K) :
    Calls Try.prog 48 #[.pointer (some ⟨g, 0, none⟩)] w (DrawnB w g K) := by
  have hgl := hr.lt
  go_enter Try.func48, Try.ntmps48
  go_wp2_with fail
  refine (pick_any g K 6 _ (by omega) (by omega) (by omega) hr).mono ?_
  rintro e w1 ⟨v1, rfl, h10, h11, hg1, hr1⟩
  obtain ⟨v1, rfl⟩ := Int.eq_ofNat_of_zero_le h10
  obtain ⟨nn, hnn⟩ : ∃ nn, 1 + v1 = nn := ⟨_, rfl⟩
  have n1 : 1 ≤ nn := by omega
  have n6 : nn ≤ 6 := by omega
  have hcast : (1 : Int) + (v1 : Int) = (nn : Int) := by omega
  have hcast2 : IntKind.i64.wrap (1 + (v1 : Int)) = (nn : Int) := by rw [hcast]; exact IntWalk.i64_in _ (by omega)
  go_wp2_with fail
  refine (pick_any g (K + 1) 13 _ (by omega) (by omega) (by omega) (hr1.alloc _)).mono ?_
  rintro e w2 ⟨v2, rfl, h20, h21, hg2, hr2⟩
  have hga := grown_same (grown_alloc hg1 (.cells #[] 40)) hg2
  have hoa := own_pick (own_base (own_empty w1 40 3) hg1.size) hgl hg2
  clear hg2 hcast2
  go_wp2
  go_loopw [5, 7] (fun o i wr => ∃ (k m b c : Nat) (ls : List (Int × Int × Bool)), (k : Int) ≤ v2 ∧ i = .int .i64 k ∧ ls.length = m ∧ m ≤ 16 ∧ o = .slice (some ⟨b, 0, none⟩) m c ∧ wr.ownsRow w.heap.size 40 3 (.slice (some ⟨b, 0, none⟩) m c) m (flB ls) ∧ w.grownBy wr (some g) ∧ Rdr wr g (K + 2 + 3 * k)) (fun _ i _ => v2.toNat - (intOf i).toNat)
  case atStart => exact ⟨0, 0, w1.heap.size, 0, [], by omega, rfl, rfl, by omega, rfl, hoa, hga, hr2⟩
  case round =>
    obtain ⟨k, m, b, c, ls, hk, rfl, hl, m16, rfl, hown, hgw, hrd⟩ := hrel
    have Hl := hideIt hl
    clear hl hoa hga hr2 hr hr1 hg1
    by_cases hlt : (k : Int) < v2
    · go_wp2_with fail
      refine (pick_any g _ nn _ (by omega) (by omega) (by omega) hrd).mono ?_
      rintro e w3 ⟨v3, rfl, h30, h31, hg3, hr3⟩
      have hown3 := own_pick hown hgl hg3
      have hgw3 := grown_same hgw hg3
      clear hrd hown hgw hg3
      go_wp2_with fail
      refine (pick_any g _ ((nn : Int) - v3) _ (by omega) (by omega) (by omega) hr3).mono ?_
      rintro e w4 ⟨v4, rfl, h40, h41, hg4, hr4⟩
      have hown4 := own_pick hown3 hgl hg4
      have hgw4 := grown_same hgw3 hg4
      clear hr3 hown3 hgw3 hg4
      go_wp2_with fail
      refine (pick_any g _ 5 _ (by omega) (by omega) (by omega) hr4).mono ?_
      rintro e w5 ⟨v5, rfl, h50, h51, hg5, hr5⟩
      have hown5 := own_pick hown4 hgl hg5
      have hgw5 := grown_same hgw4 hg5
      clear hr4 hown4 hgw4 hg5
      go_wp2_with fail
      refine (specSeatsBook_any nn _ ls m c _ _ _ _ Hl.out (by omega) (Rd.of_own hown5)).mono ?_
      rintro e w6 ⟨A6, c6, rfl, ho6, hb6⟩
      have hgw6 := grown_bel hgw5 hb6
      have hr6 := hr5.bel hb6
      have hown6 := own_below hown5 hb6 (Nat.le_refl _)
      have hsz := hgw5.size
      obtain ⟨bk, hbk⟩ : ∃ bk, ((v3, v3 + 1 + v4, decide (1 < v5)) : Int × Int × Bool) = bk := ⟨_, rfl⟩
      rw [hbk] at ho6 ⊢
      clear hbk hown5 hgw5 hr5 hb6
      cases hok : bookOk nn ls bk
      · rw [hok] at *
        clear ho6 hok
        go_wp2
        go_roundw
        case rel => exact ⟨k + 1, m, b, c, ls, by omega, by go_num, Hl.out, by omega, rfl, hown6, hgw6, hr6.mono (by omega)⟩
        case measure => simp [intOf]; omega
      · have hsb := seatsBook_t hok
        have hlen : (ls ++ [bk]).length = m + 1 := by rw [List.length_append, Hl.out]; rfl
        have h16 := (bValid_parts (bookOk_t hok).2).2.2.1
        rw [hlen] at h16
        rw [hsb, hlen] at ho6
        obtain ⟨b6, rfl, hb60, hb61⟩ := own_some ho6 (by omega)
        have ho7 := own_base ho6 hsz
        have Hlen := hideIt hlen
        have Hq := hideIt (show (seatsBook nn ls bk).length = m + 1 by rw [hsb, hlen])
        rw [Hq.out]
        clear ho6 hok hsb hlen
        go_wp2
        go_roundw
        case rel => exact ⟨k + 1, m + 1, b6, c6, ls ++ [bk], by omega, by go_num, Hlen.out, by omega, rfl, ho7, hgw6, hr6.mono (by omega)⟩
        case measure => simp [intOf]; omega
    · have hb0 := (hown.lt b rfl).1
      have hr9 := hrd
      clear hrd
      by_cases hm0 : m = 0
      · subst hm0
        go_wp2
        go_ret2
        exact ⟨nn, ls, b, 0, c, rfl, n1, n6, Hl.out, by omega, hown, hgw, hr9.mono (by omega)⟩
      · have hm1 : 0 < m := by omega
        have hm2 : (0 : Int) < (m : Int) := by omega
        go_wp2_with fail
        refine (pick_any g _ 40 _ (by omega) (by omega) (by omega) hr9).mono ?_
        rintro e w3 ⟨v3, rfl, h30, h31, hg3, hr3⟩
        have hown3 := own_pick hown hgl hg3
        have hgw3 := grown_same hgw hg3
        have hfr := fun j => hown3.frozenAt j
        clear hr9 hown hgw hg3
        by_cases c0 : v3 = 0
        · subst c0
          obtain ⟨hcx, hcy, _⟩ := rowB_a hown3 (k := 0) (by rw [Hl.out]; omega)
          simp only [Nat.zero_mul, Nat.zero_add] at hcx hcy
          have hwr : IntKind.i64.wrap ((nn : Int) + 1) = (nn : Int) + 1 := IntWalk.i64_in _ (by omega)
          obtain ⟨x, hx⟩ : ∃ x, aB ls 0 = x := ⟨_, rfl⟩
          obtain ⟨y, hy⟩ : ∃ x, bB ls 0 = x := ⟨_, rfl⟩
          rw [hx] at hcx
          rw [hy] at hcy
          have Hx := hideIt hx
          clear hx hy
          go_wp2_with fail
          go_region_with (first
              | (go_at_call 49
                 refine (pick_any g _ 2 _ (by omega) (by omega) (by omega) (hr3.alloc (.cells #[.int .i64 x, .int .i64 ((nn : Int) + 1)] 3)).drew).mono ?_
                 rintro e w4 ⟨v4, rfl, h40, h41, hg4, hr4⟩
                 have hown4 := own_pick (own_drewB (hown3.alloc (.cells #[.int .i64 x, .int .i64 ((nn : Int) + 1)] 3))) hgl hg4
                 have hnw := cell_new_pick (Nat.lt_of_lt_of_le hgl hgw3.size) _ _ hg4
                 obtain ⟨val, hval0⟩ := pair_at x ((nn : Int) + 1) h40 h41
                 have hval : w4.cell? ⟨w3.heap.size, v4.toNat, none⟩ = some (.int .i64 val) := (cell_of_row w4 w3.heap.size v4.toNat _ _ _ hnw).trans hval0
                 have hfrA := fun j => hown4.frozenAt j
                 have hclA := (rowB_a hown4 (k := 0) (by rw [Hl.out]; omega)).2.1
                 simp only [Nat.zero_mul, Nat.zero_add] at hclA
                 clear hnw hval0)
              | (go_at_call 49
                 refine (pick_any g _ 2 _ (by omega) (by omega) (by omega) hr3.drew).mono ?_
                 rintro e w4 ⟨v4, rfl, h40, h41, hg4, hr4⟩
                 have hown4 := own_pick (own_drewB hown3) hgl hg4
                 have hcx4 := (rowB_a hown4 (k := 0) (by rw [Hl.out]; omega)).1
                 rw [Hx.out] at hcx4
                 obtain ⟨val, hval0⟩ := pair_at x ((nn : Int) + 1) h40 h41
                 have hval : (w4.alloc (.cells #[.int .i64 x, .int .i64 ((nn : Int) + 1)] 3)).cell? ⟨w4.heap.size, v4.toNat, none⟩ = some (.int .i64 val) := (cell_of_row _ w4.heap.size v4.toNat _ _ _ (heap_alloc_new w4 _)).trans hval0
                 have hfrA := fun j => (hown4.alloc (.cells #[.int .i64 x, .int .i64 ((nn : Int) + 1)] 3)).frozenAt j
                 have hclA := (rowB_a (hown4.alloc (.cells #[.int .i64 x, .int .i64 ((nn : Int) + 1)] 3)) (k := 0) (by rw [Hl.out]; omega)).2.1
                 simp only [Nat.zero_mul, Nat.zero_add] at hclA hcx4))
          · have hst := rowB_storeb (hown4) (k := 0) (by rw [Hl.out]; omega) val
            simp only [Nat.zero_mul, Nat.zero_add] at hst
            have hgf := grown_new (grown_same (grown_drew (grown_alloc hgw3 (.cells #[.int .i64 x, .int .i64 ((nn : Int) + 1)] 3))) hg4) (grown_set w4 b 1 (.int .i64 val)) (fun j e => by cases e; exact hb0)
            have hrf := (hr4).grown (grown_set w4 b 1 (.int .i64 val)) (fun j e => by cases e; omega)
            go_wp2
            go_ret2
            exact ⟨nn, _, b, m, c, rfl, n1, n6, by rw [List.length_set]; exact Hl.out, by omega, hst, hgf, hrf.mono (by omega)⟩
          · have hst := rowB_storeb (hown4.alloc (.cells #[.int .i64 x, .int .i64 ((nn : Int) + 1)] 3)) (k := 0) (by rw [Hl.out]; omega) val
            simp only [Nat.zero_mul, Nat.zero_add] at hst
            have hgf := grown_new (grown_alloc (grown_same (grown_drew hgw3) hg4) (.cells #[.int .i64 x, .int .i64 ((nn : Int) + 1)] 3)) (grown_set (w4.alloc (.cells #[.int .i64 x, .int .i64 ((nn : Int) + 1)] 3)) b 1 (.int .i64 val)) (fun j e => by cases e; exact hb0)
            have hrf := (hr4.alloc (.cells #[.int .i64 x, .int .i64 ((nn : Int) + 1)] 3)).grown (grown_set (w4.alloc (.cells #[.int .i64 x, .int .i64 ((nn : Int) + 1)] 3)) b 1 (.int .i64 val)) (fun j e => by cases e; omega)
            go_wp2
            go_ret2
            exact ⟨nn, _, b, m, c, rfl, n1, n6, by rw [List.length_set]; exact Hl.out, by omega, hst, hgf, hrf.mono (by omega)⟩
          · have hst := rowB_storeb (hown4.alloc (.cells #[.int .i64 x, .int .i64 ((nn : Int) + 1)] 3)) (k := 0) (by rw [Hl.out]; omega) val
            simp only [Nat.zero_mul, Nat.zero_add] at hst
            have hgf := grown_new (grown_alloc (grown_same (grown_drew hgw3) hg4) (.cells #[.int .i64 x, .int .i64 ((nn : Int) + 1)] 3)) (grown_set (w4.alloc (.cells #[.int .i64 x, .int .i64 ((nn : Int) + 1)] 3)) b 1 (.int .i64 val)) (fun j e => by cases e; exact hb0)
            have hrf := (hr4.alloc (.cells #[.int .i64 x, .int .i64 ((nn : Int) + 1)] 3)).grown (grown_set (w4.alloc (.cells #[.int .i64 x, .int .i64 ((nn : Int) + 1)] 3)) b 1 (.int .i64 val)) (fun j e => by cases e; omega)
            go_wp2
            go_ret2
            exact ⟨nn, _, b, m, c, rfl, n1, n6, by rw [List.length_set]; exact Hl.out, by omega, hst, hgf, hrf.mono (by omega)⟩
        · by_cases c1 : v3 = 1
          · subst c1
            have hst := rowB_storea hown3 (k := 0) (by rw [Hl.out]; omega) (-1)
            obtain ⟨hcx, _, _⟩ := rowB_a hown3 (k := 0) (by rw [Hl.out]; omega)
            simp only [Nat.zero_mul] at hst hcx
            clear c0 hown3
            go_wp2
            go_ret2
            exact ⟨nn, _, b, m, c, rfl, n1, n6, by rw [List.length_set]; exact Hl.out, by omega, hst, grown_new hgw3 (grown_set w3 b 0 _) (fun j e => by cases e; exact hb0), (hr3.grown (grown_set w3 b 0 _) (fun j e => by cases e; omega)).mono (by omega)⟩
          · have d0 : (v3 == 0) = false := by simp [c0]
            have d1 : (v3 == 1) = false := by simp [c1]
            clear c0 c1
            go_wp2
            go_ret2
            exact ⟨nn, ls, b, m, c, rfl, n1, n6, Hl.out, by omega, hown3, hgw3, hr3.mono (by omega)⟩

/-- a drawn number and bookings, in a new world -/
def DrawnBL (w : World) (e : Ending) (w' : World) : Prop :=
  ∃ (n : Nat) (ls : List (Int × Int × Bool)) (b m c : Nat), e = .returned (.tuple #[.int .i64 n, .slice (some ⟨b, 0, none⟩) m c]) ∧ 1 ≤ n ∧ n ≤ 6 ∧ ls.length = m ∧ m ≤ 16 ∧ w'.ownsRow w.heap.size 40 3 (.slice (some ⟨b, 0, none⟩) m c) m (flB ls) ∧ Below w.heap.size w w'

end Go.Proofs.Ytpcmkegogcffiaa

/- Walks: the drawn roads in parts, 2: with miles, with amounts. -/
import Derived.Test.YtfnpkbfgemcbaaaDrPa
import Derived.Deep.QuietTactic
namespace Go.Proofs.Ytfnpkbfgemcbaaa
open Go.RowKit

theorem two_at (a b : Int) {v : Int} (h0 : 0 ≤ v) (h1 : v < 2) : ∃ u : Int, (#[Value.int .i64 a, Value.int .i64 b])[v.toNat]? = some (.int .i64 u) ∧ (u = a ∨ u = b) := by
  rcases (show v = 0 ∨ v = 1 by omega) with rfl | rfl
  · exact ⟨a, rfl, .inl rfl⟩
  · exact ⟨b, rfl, .inr rfl⟩
theorem four_at (a b c d : Int) {v : Int} (h0 : 0 ≤ v) (h1 : v < 4) : ∃ u : Int, (#[Value.int .i64 a, Value.int .i64 b, Value.int .i64 c, Value.int .i64 d])[v.toNat]? = some (.int .i64 u) ∧ (u = a ∨ u = b ∨ u = c ∨ u = d) := by
  rcases (show v = 0 ∨ v = 1 ∨ v = 2 ∨ v = 3 by omega) with rfl | rfl | rfl | rfl
  · exact ⟨a, rfl, .inl rfl⟩
  · exact ⟨b, rfl, .inr (.inl rfl)⟩
  · exact ⟨c, rfl, .inr (.inr (.inl rfl))⟩
  · exact ⟨d, rfl, .inr (.inr (.inr rfl))⟩
theorem tab_at {w w' : World} {g : Nat} (hgl : g < w.heap.size) {cs : Array Value} {t : TypeId} (hg : (w.alloc (.cells cs t)).grownBy w' (some g)) {v : Int} {u : Value} (hu : cs[v.toNat]? = some u) : w'.cell? ⟨w.heap.size, v.toNat, none⟩ = some u :=
  (cell_of_row w' w.heap.size v.toNat _ _ _ (cell_new_pick hgl cs t hg)).trans hu
theorem partsLength_in (ps : List (Int × Int)) : -1 ≤ partsLength ps ∧ partsLength ps ≤ 1188 := by
  cases hv : partsValid ps
  · rw [partsLength, hv]; simp
  · rw [partsLength, if_pos hv, sumB_owners hv]
    have := owners_le hv
    omega
set_option maxRecDepth 100000 in
theorem DrawPartsTurn_any (A : Option Addr) (xs : List Int) (n c : Nat) (w : World) (hl : xs.length = n) (hn : n ≤ 1048576) (hc : n ≤ c) (hx : Bytes xs) (hr : Rd w A (flU xs)) :
    Calls Try.prog 28 #[.slice A n c] w (DrawnL w) := by
  go_enter Try.func28, Try.ntmps28
  go_wp2_with fail
  refine (l6Open_any _ xs _ _ _ hl hn hc hx hr).mono ?_
  rintro e w1 ⟨g, rfl, hg, hr1, hb1⟩
  go_wp2_with fail
  refine (l92Parts_any g 0 _ (by omega) hr1).mono ?_
  rintro e w2 h2
  obtain ⟨ps, A2, n2, c2, rfl, hl2, hn2, ho2, hb2⟩ := DrawnP.list hb1 hg h2
  go_wp2_with fail
  go_ret
  exact ⟨ps, A2, n2, c2, rfl, hl2, hn2, ho2, hb2⟩
set_option maxRecDepth 100000 in
theorem DrawPartsPlain_any (A : Option Addr) (xs : List Int) (n c : Nat) (w : World) (hl : xs.length = n) (hn : n ≤ 1048576) (hc : n ≤ c) (hx : Bytes xs) (hr : Rd w A (flU xs)) :
    Calls Try.prog 16 #[.slice A n c] w (DrawnL w) := by
  go_enter Try.func16, Try.ntmps16
  go_wp2_with fail
  refine (l6Open_any _ xs _ _ _ hl hn hc hx hr).mono ?_
  rintro e w1 ⟨g, rfl, hg, hr1, hb1⟩
  go_wp2_with fail
  refine (pick_any g _ 16 _ (by omega) (by omega) (by omega) hr1).mono ?_
  rintro e w2 ⟨v2, rfl, h20, h21, hg2, hr2⟩
  have hb2 := below_pick hb1 hg2 hg hb1.size
  by_cases c0 : v2 = 0
  · subst c0
    go_wp2_with fail
    refine (pick_any g _ 20 _ (by omega) (by omega) (by omega) hr2).mono ?_
    rintro e w3 ⟨v3, rfl, h30, h31, hg3, hr3⟩
    have hb3 := below_pick hb2 hg3 hg hb2.size
    have hlit := World.ownsRow_lit (base := w3.heap.size) (e := 38) (size := 2) w3 #[.int .i64 1, .int .i64 60, .int .i64 1, .int .i64 (30 + v3)] 2 (Nat.le_refl _) (by unfold maxLen; omega) rfl
    have hw := IntWalk.i64_in (30 + v3) (by omega)
    go_wp2_with fail
    go_ret
    exact ⟨[(1, 60), (1, 30 + v3)], _, 2, 2, rfl, rfl, by omega, own_base hlit hb3.size, hb3.alloc hb3.size _⟩
  · have d0 : (v2 == 0) = false := by simp [c0]
    clear c0
    go_wp2_with fail
    refine (l92Parts_any g _ _ (by omega) hr2).mono ?_
    rintro e w3 h3
    obtain ⟨ps, A2, n2, c2, rfl, hl2, hn2, ho2, hb3⟩ := DrawnP.list hb2 hg h3
    go_wp2_with fail
    go_ret
    exact ⟨ps, A2, n2, c2, rfl, hl2, hn2, ho2, hb3⟩
/-- a drawn list and a number -/
def DrawnLI (w : World) (lo hi : Int) : Ending → World → Prop := fun e w' =>
  ∃ (ps : List (Int × Int)) (a : Addr) (n c : Nat) (v : Int), e = .returned (.tuple #[.slice (some a) n c, .int .i64 v]) ∧ ps.length = n ∧ n ≤ 64 ∧ lo ≤ v ∧ v ≤ hi ∧ w'.ownsRow w.heap.size 38 2 (.slice (some a) n c) n (fl2 ps) ∧ Below w.heap.size w w'
set_option maxRecDepth 100000 in
theorem l92At_any (g K : Nat) (n : Int) (w : World) (hK : K ≤ 100000000) (hn0 : 0 ≤ n) (hn1 : n ≤ 1188) (hr : Rdr w g K) :
    Calls Try.prog 51 #[.pointer (some ⟨g, 0, none⟩), .int .i64 n] w fun e w' => ∃ v : Int, e = .returned (.int .i64 v) ∧ -1 ≤ v ∧ v ≤ 1188 ∧ w.grownBy w' (some g) ∧ Rdr w' g (K + 2) := by
  have hgl := hr.lt
  by_cases hz : n = 0
  · subst hz
    go_enter Try.func51, Try.ntmps51
    go_wp2_with fail
    refine (pick_any g _ 2 _ (by omega) (by omega) (by omega) (hr.alloc _)).mono ?_
    rintro e w2 ⟨v2, rfl, h20, h21, hg2, hr2⟩
    obtain ⟨u, hu, hu2⟩ := two_at (-1) 0 h20 h21
    have hcell := tab_at hgl hg2 hu
    have hgw2 := grown_same (grown_alloc (grown_refl w (some g)) _) hg2
    clear hu hg2 hr
    go_wp2
    go_ret
    exact ⟨u, rfl, by omega, by omega, hgw2, hr2.mono (by omega)⟩
  have hzb : (n == 0) = false := by simpa using hz
  go_enter Try.func51, Try.ntmps51
  go_wp2_with fail
  refine (pick_any g _ 20 _ (by omega) (by omega) (by omega) hr).mono ?_
  rintro e w1 ⟨v1, rfl, h10, h11, hg1, hr1⟩
  have hgl1 := Nat.lt_of_lt_of_le hgl hg1.size
  by_cases c0 : v1 = 0
  · subst c0
    go_wp2_with fail
    refine (pick_any g _ 2 _ (by omega) (by omega) (by omega) (hr1.alloc _)).mono ?_
    rintro e w2 ⟨v2, rfl, h20, h21, hg2, hr2⟩
    obtain ⟨u, hu, hu2⟩ := two_at (-1) n h20 h21
    have hcell := tab_at hgl1 hg2 hu
    have hgw2 := grown_same (grown_alloc hg1 _) hg2
    clear hu hg2 hg1 hr hr1
    go_wp2
    go_ret
    exact ⟨u, rfl, by omega, by omega, hgw2, hr2⟩
  · have d0 : (v1 == 0) = false := by simp [c0]
    clear c0
    go_wp2_with fail
    refine (pick_any g _ n _ (by omega) (by omega) (by omega) hr1).mono ?_
    rintro e w2 ⟨v2, rfl, h20, h21, hg2, hr2⟩
    have hgw2 := grown_same hg1 hg2
    clear hg2 hg1 hr hr1
    go_wp2
    go_ret
    exact ⟨v2, rfl, by omega, by omega, hgw2, hr2⟩
set_option maxRecDepth 100000 in
theorem DrawPartsOwner_any (A : Option Addr) (xs : List Int) (n c : Nat) (w : World) (hl : xs.length = n) (hn : n ≤ 1048576) (hc : n ≤ c) (hx : Bytes xs) (hr : Rd w A (flU xs)) :
    Calls Try.prog 24 #[.slice A n c] w (DrawnLI w (-1) 1188) := by
  go_enter Try.func24, Try.ntmps24
  go_wp2_with fail
  refine (l6Open_any _ xs _ _ _ hl hn hc hx hr).mono ?_
  rintro e w1 ⟨g, rfl, hg, hr1, hb1⟩
  go_wp2_with fail
  refine (l92Parts_any g 0 _ (by omega) hr1).mono ?_
  rintro e w2 ⟨ps, A2, n2, c2, rfl, hl2, hn2, ho2, hg2, hr2⟩
  have hb2 := below_pick hb1 hg2 hg hb1.size
  have Hl2 := hideIt hl2
  have hgl := hr1.lt
  clear hl2
  obtain ⟨P, hP⟩ : ∃ P, partsLength ps = P := ⟨_, rfl⟩
  have hP1 := partsLength_in ps
  rw [hP] at hP1
  have HP := hideIt hP
  clear hP
  go_wp2_with fail
  refine (specPartsLength_any _ _ _ _ _ Hl2.out (by omega) (Rd.of_own ho2)).mono ?_
  rw [HP.out]
  rintro e w3 ⟨rfl, hb3⟩
  have b3 := hb2.trans (hb3.mono hb2.size)
  have ho3 := own_below ho2 hb3 (Nat.le_refl _)
  have hr3 : Rdr w3 g (0 + 64) := hr2.grown (row := none) ⟨hb3.os, hb3.tape, hb3.output, hb3.size, fun k hk _ => hb3.block k hk⟩ (fun k e => by cases e)
  clear hb2 hb3 ho2 hr2
  rcases Int.lt_trichotomy P 0 with hc | hc | hc
  · go_wp2_with fail
    refine (l92At_any g _ 0 _ (by omega) (by omega) (by omega) hr3).mono ?_
    rintro e w4 ⟨v, rfl, h0, h1, hg4, hr4⟩
    have b4 := below_pick b3 hg4 hg b3.size
    have ho4 := own_pick ho3 hgl hg4
    go_wp2_with fail
    go_ret2
    exact ⟨ps, A2, n2, c2, v, rfl, Hl2.out, hn2, h0, h1, own_base ho4 hb1.size, b4⟩
  · subst hc
    go_wp2_with fail
    refine (l92At_any g _ 0 _ (by omega) (by omega) (by omega) hr3).mono ?_
    rintro e w4 ⟨v, rfl, h0, h1, hg4, hr4⟩
    have b4 := below_pick b3 hg4 hg b3.size
    have ho4 := own_pick ho3 hgl hg4
    go_wp2_with fail
    go_ret2
    exact ⟨ps, A2, n2, c2, v, rfl, Hl2.out, hn2, h0, h1, own_base ho4 hb1.size, b4⟩
  · go_wp2_with fail
    refine (l92At_any g _ P _ (by omega) (by omega) (by omega) hr3).mono ?_
    rintro e w4 ⟨v, rfl, h0, h1, hg4, hr4⟩
    have b4 := below_pick b3 hg4 hg b3.size
    have ho4 := own_pick ho3 hgl hg4
    go_wp2_with fail
    go_ret2
    exact ⟨ps, A2, n2, c2, v, rfl, Hl2.out, hn2, h0, h1, own_base ho4 hb1.size, b4⟩
set_option maxRecDepth 100000 in
theorem l92Amount_any (g K : Nat) (w : World) (hK : K ≤ 100000000) (hr : Rdr w g K) :
    Calls Try.prog 65 #[.pointer (some ⟨g, 0, none⟩)] w fun e w' => ∃ v : Int, e = .returned (.int .i64 v) ∧ -1 ≤ v ∧ v ≤ 1000001 ∧ w.grownBy w' (some g) ∧ Rdr w' g (K + 2) := by
  have hgl := hr.lt
  go_enter Try.func65, Try.ntmps65
  go_wp2_with fail
  refine (pick_any g _ 16 _ (by omega) (by omega) (by omega) hr).mono ?_
  rintro e w1 ⟨v1, rfl, h10, h11, hg1, hr1⟩
  have hgl1 := Nat.lt_of_lt_of_le hgl hg1.size
  by_cases c0 : v1 = 0
  · subst c0
    go_wp2_with fail
    refine (pick_any g _ 4 _ (by omega) (by omega) (by omega) (hr1.alloc _)).mono ?_
    rintro e w2 ⟨v2, rfl, h20, h21, hg2, hr2⟩
    obtain ⟨u, hu, hu2⟩ := four_at (-1) 0 1000000 1000001 h20 h21
    have hcell := tab_at hgl1 hg2 hu
    have hgw2 := grown_same (grown_alloc hg1 _) hg2
    clear hu hg2 hg1 hr hr1
    go_wp2
    go_ret
    exact ⟨u, rfl, by omega, by omega, hgw2, hr2⟩
  · have d0 : (v1 == 0) = false := by simp [c0]
    clear c0
    go_wp2_with fail
    refine (pick_any g _ 200 _ (by omega) (by omega) (by omega) hr1).mono ?_
    rintro e w2 ⟨v2, rfl, h20, h21, hg2, hr2⟩
    have hgw2 := grown_same hg1 hg2
    clear hg2 hg1 hr hr1
    go_wp2
    go_ret
    exact ⟨v2, rfl, by omega, by omega, hgw2, hr2⟩
set_option maxRecDepth 100000 in
theorem DrawShareMake_any (A : Option Addr) (xs : List Int) (n c : Nat) (w : World) (hl : xs.length = n) (hn : n ≤ 1048576) (hc : n ≤ c) (hx : Bytes xs) (hr : Rd w A (flU xs)) :
    Calls Try.prog 58 #[.slice A n c] w (DrawnLI w (-1) 1000001) := by
  go_enter Try.func58, Try.ntmps58
  go_wp2_with fail
  refine (l6Open_any _ xs _ _ _ hl hn hc hx hr).mono ?_
  rintro e w1 ⟨g, rfl, hg, hr1, hb1⟩
  go_wp2_with fail
  refine (l92Parts_any g 0 _ (by omega) hr1).mono ?_
  rintro e w2 ⟨ps, A2, n2, c2, rfl, hl2, hn2, ho2, hg2, hr2⟩
  have hb2 := below_pick hb1 hg2 hg hb1.size
  have hgl := hr1.lt
  go_wp2_with fail
  refine (l92Amount_any g _ _ (by omega) hr2).mono ?_
  rintro e w4 ⟨v, rfl, h0, h1, hg4, hr4⟩
  have b4 := below_pick hb2 hg4 hg hb2.size
  have ho4 := own_pick ho2 hgl hg4
  go_wp2_with fail
  go_ret2
  exact ⟨ps, A2, n2, c2, v, rfl, hl2, hn2, h0, h1, own_base ho4 hb1.size, b4⟩
set_option maxRecDepth 100000 in
theorem DrawShareDue_any (A : Option Addr) (xs : List Int) (n c : Nat) (w : World) (hl : xs.length = n) (hn : n ≤ 1048576) (hc : n ≤ c) (hx : Bytes xs) (hr : Rd w A (flU xs)) :
    Calls Try.prog 31 #[.slice A n c] w (DrawnLI w (-1) 1000001) := by
  go_enter Try.func31, Try.ntmps31
  go_wp2_with fail
  refine (DrawShareMake_any _ xs _ _ _ hl hn hc hx hr).mono ?_
  rintro e w2 ⟨ps, A2, n2, c2, v, rfl, hl2, hn2, h0, h1, ho2, hb2⟩
  go_wp2_with fail
  go_ret2
  exact ⟨ps, A2, n2, c2, v, rfl, hl2, hn2, h0, h1, ho2, hb2⟩
end Go.Proofs.Ytfnpkbfgemcbaaa

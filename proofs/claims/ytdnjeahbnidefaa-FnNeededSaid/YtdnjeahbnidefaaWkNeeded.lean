/- The walk of FnNeeded. -/
import Derived.Test.YtdnjeahbnidefaaDrWh
import Derived.Test.YtdnjeahbnidefaaRoNeed2
import Derived.Test.YtdnjeahbnidefaaRoNt
import Derived.Test.YtdnjeahbnidefaaRoMc
import Derived.Test.YtdnjeahbnidefaaHasInt
import Derived.Test.YtdnjeahbnidefaaSame
import Derived.Test.YtdnjeahbnidefaaNeLaw
namespace Go.Proofs.Ytdnjeahbnidefaa.fnNeeded
open Go.RowKit

set_option maxRecDepth 100000 in
set_option maxHeartbeats 4000000 in
theorem walk (A : Option Addr) (xs : List Int) (n c : Nat) (w : World) (hl : xs.length = n) (hm : n ≤ maxLen) (hc : n ≤ c) (hx : Bytes xs) (hr : Rd w A (flU xs)) :
    Calls Try.prog 3 #[.slice A n c] w (Ret w (.bool true)) := by
  unfold maxLen at hm
  by_cases hn : n ≤ 1048576
  rotate_left
  · go_enter Try.func3, Try.ntmps3
    go_wp2_with fail
    go_ret
    exact ⟨rfl, Below.refl _ _⟩
  go_enter Try.func3, Try.ntmps3
  go_wp2_with fail
  refine (DrawRoadsNeeded_any _ xs _ _ _ hl hn hc hx hr).mono ?_
  clear hl hr hx
  rintro e w1 ⟨k, rs, b, m, d, rfl, hk2, hk6, hl1, hm1, ho1, hb1⟩
  have Hl1 := hideIt hl1
  have hcap := own_cap ho1
  clear hl1
  obtain ⟨N, hN⟩ : ∃ f, needed k rs = f := ⟨_, rfl⟩
  obtain ⟨q, hq⟩ : ∃ q, N.length = q := ⟨_, rfl⟩
  have HN := hideIt hN
  have Hq := hideIt hq
  have hq1 : q ≤ 1048576 := by rw [← hq, ← hN]; exact needed_le k rs
  clear hN hq
  go_wp2_with fail
  refine (implRoadsNeeded_any _ _ _ _ _ _ Hl1.out (by omega) (Rd.of_own ho1) hcap).mono ?_
  rw [HN.out, Hq.out]
  rintro e w2 ⟨A2, c2, rfl, hn2, hb2⟩
  have b2 := hb1.trans (hb2.mono hb1.size)
  have ho2 := own_below ho1 hb2 (Nat.le_refl _)
  clear ho1 hb2 hb1
  go_wp2_with fail
  refine (specRoadsNeeded_any _ _ _ _ _ _ Hl1.out (by omega) (Rd.of_own ho2) hcap).mono ?_
  rw [HN.out, Hq.out]
  rintro e w3 ⟨A3, d3, rfl, hx3, hb3⟩
  have b3 := b2.trans (hb3.mono b2.size)
  have ho3 := own_below ho2 hb3 (Nat.le_refl _)
  have hn3 := own_below hn2 hb3 (Nat.le_refl _)
  clear ho2 hn2 hb3 b2
  go_wp2_with fail
  refine (sameInts_any _ _ _ _ _ _ _ _ _ Hq.out Hq.out hq1 hq1 (Rd.of_own hn3) (Rd.of_own hx3)).mono ?_
  rw [decide_eq_true rfl]
  rintro e w4 ⟨rfl, hb4⟩
  have b4 := b3.trans (hb4.mono b3.size)
  have ho4 := own_below ho3 hb4 (Nat.le_refl _)
  have hn4 := own_below hn3 hb4 (Nat.le_refl _)
  have hx4 := own_below hx3 hb4 (Nat.le_refl _)
  clear ho3 hn3 hx3 hb4 b3
  by_cases hq0 : q = 0
  · subst hq0
    go_wp2_with fail
    refine (sameInts_any _ _ _ _ _ _ _ _ _ Hq.out Hq.out hq1 hq1 (Rd.of_own hn4) (Rd.of_own hx4)).mono ?_
    rw [decide_eq_true rfl]
    rintro e w5 ⟨rfl, hb5⟩
    go_wp2
    go_ret
    exact ⟨rfl, b4.trans (hb5.mono b4.size)⟩
  clear hx4
  have hv : roadsValid k rs = true := by
    cases h : roadsValid k rs
    · have h1 := HN.out
      rw [needed_v h] at h1
      have h2 := Hq.out
      rw [← h1] at h2
      exact absurd h2.symm hq0
    · rfl
  obtain ⟨kk, hkk, hrv⟩ := roadsValid_t hv
  obtain rfl : k = kk := by omega
  obtain ⟨P, hP⟩ : ∃ p, whole k rs = p := ⟨_, rfl⟩
  obtain ⟨Z, hZ⟩ : ∃ p, roadsNet k rs = p := ⟨_, rfl⟩
  obtain ⟨z, hz⟩ : ∃ p, Z.length = p := ⟨_, rfl⟩
  have hz1 : z ≤ 1048576 := by rw [← hz, ← hZ]; exact roadsNet_le k rs
  have Hlaw : Hid (∀ i, i < q → ∃ j : Nat, a1 N i = j ∧ j < m ∧ IntOk (a3 rs j) ∧ IntOk (b3 rs j) ∧ 0 ≤ direct k rs (a3 rs j) (b3 rs j) ∧ roadsClose k rs (a3 rs j) (b3 rs j) = lessR rs j ∧ (lessR rs j).length = m - 1 ∧ roadsFar k (lessR rs j) (a3 rs j) (b3 rs j) = -1 ∧ roadsMany k rs (a3 rs j) (b3 rs j) = 1 ∧ (P = true → (j : Int) ∈ Z)) := hideIt (fun i hi => by
    have hi' : i < N.length := by rw [Hq.out]; exact hi
    have hmem : a1 N i ∈ needed k rs := by
      rw [HN.out]
      unfold a1
      rw [List.getD_eq_getElem?_getD, List.getElem?_eq_getElem hi']
      exact List.getElem_mem hi'
    obtain ⟨j, e, hj, g1, g2, g3, g4, g5⟩ := hrv.needed_law hmem
    obtain ⟨r1, r2, r3, r4, r5⟩ := hrv.road j hj
    refine ⟨j, e, by rw [← Hl1.out]; exact hj, by unfold IntOk; omega, by unfold IntOk; omega, g1, g2, by rw [without_len j hj, Hl1.out], g3, g4, fun hp => ?_⟩
    rw [← hZ]
    exact g5 (by rw [hP]; exact hp))
  have HP := hideIt hP
  have HZ := hideIt hZ
  have Hz := hideIt hz
  clear hv hkk hrv hP hZ hz
  go_wp2_with fail
  refine (implRoadsNet_any _ _ _ _ _ _ Hl1.out (by omega) (Rd.of_own ho4)).mono ?_
  rw [HZ.out, HP.out, Hz.out]
  rintro e w5 ⟨A5, c5, rfl, hz5, hb5⟩
  have b5 := b4.trans (hb5.mono b4.size)
  have ho5 := own_below ho4 hb5 (Nat.le_refl _)
  have hn5 := own_below hn4 hb5 (Nat.le_refl _)
  clear ho4 hn4 hb5 b4
  have hrd := Rd.of_own ho5
  have hnd := Rd.of_own hn5
  have hzd := Rd.of_own hz5
  obtain ⟨nb, no, rfl, hnl, hnc⟩ := hnd.at1 (k := 0) (by rw [Hq.out]; omega)
  have Hnc := hideIt hnc
  clear hn5 ho5 hz5 hnc
  go_wp2
  go_loopw [9] (fun i wr => ∃ j : Nat, j ≤ q ∧ i = .int .i64 j ∧ Below w5.heap.size w5 wr) (fun i _ => q - (intOf i).toNat)
  case atStart => exact ⟨0, by omega, rfl, Below.refl _ _⟩
  case round =>
    obtain ⟨a, ha, rfl, hbw⟩ := hrel
    by_cases hlt : a < q
    · obtain ⟨j, e1, hj, ok1, ok2, g1, g2, g3, g4, g5, g6⟩ := Hlaw.out a hlt
      obtain ⟨bb, oo, hbe, hblk, hcc⟩ := hrd.at3 (k := j) (by rw [Hl1.out]; exact hj)
      cases hbe
      obtain ⟨x1, x2, x3⟩ := hcc j (by rw [Hl1.out]; exact hj)
      have Hn : Hid (∀ w', Below w5.heap.size w5 w' → w'.cell? ⟨nb, no + a, none⟩ = some (.int .i64 (j : Int))) := hideIt (fun w' hb => by
        have := Hnc.out a (by rw [Hq.out]; exact hlt)
        rw [e1] at this
        exact (hb.cell (p := ⟨nb, no + a, none⟩) hnl).trans this)
      obtain ⟨u, hu⟩ : ∃ u, a3 rs j = u := ⟨_, rfl⟩
      obtain ⟨v, hv⟩ : ∃ v, b3 rs j = v := ⟨_, rfl⟩
      obtain ⟨y, hy⟩ : ∃ v, c3 rs j = v := ⟨_, rfl⟩
      rw [hu, hv] at g1 g2 g4 g5
      rw [hu] at ok1 x1
      rw [hv] at ok2 x2
      rw [hy] at x3
      rw [← hbw.cell (p := ⟨b, 0 + j * 3, none⟩) hblk, Nat.zero_add] at x1
      rw [← hbw.cell (p := ⟨b, 0 + j * 3 + 1, none⟩) hblk, Nat.zero_add] at x2
      rw [← hbw.cell (p := ⟨b, 0 + j * 3 + 2, none⟩) hblk, Nat.zero_add] at x3
      have hna := Hn.out _ hbw
      have Hdec := hideIt (decide_eq_true g1)
      have Hcl := hideIt g2
      have Hlo := hideIt g3
      have Hf := hideIt g4
      have Hmn := hideIt g5
      have Hmem := hideIt g6
      have hjm : (j : Int) < (m : Int) := by omega
      have bA : Below w5.heap.size w5 (wr.alloc (.cells #[.int .i64 u, .int .i64 v, .int .i64 y] 32)) := hbw.alloc hbw.size _
      have HA : Hid (∀ w', Below (wr.alloc (.cells #[.int .i64 u, .int .i64 v, .int .i64 y] 32)).heap.size (wr.alloc (.cells #[.int .i64 u, .int .i64 v, .int .i64 y] 32)) w' → w'.cell? ⟨wr.heap.size, 0, none⟩ = some (.int .i64 u) ∧ w'.cell? ⟨wr.heap.size, 1, none⟩ = some (.int .i64 v)) := hideIt (fun w' hb => ⟨(hb.cell (p := ⟨wr.heap.size, 0, none⟩) (by simp)).trans (by simp), (hb.cell (p := ⟨wr.heap.size, 1, none⟩) (by simp)).trans (by simp)⟩)
      have hsA := bA.size
      clear e1 g1 g2 g3 g4 g5 g6 hu hv hy hcc
      go_wp2_with fail
      refine (implRoadsClose_any _ _ _ _ _ _ _ _ Hl1.out (by omega) (hrd.below bA (Nat.le_refl _)) hcap ok1 ok2).mono ?_
      rw [Hcl.out, Hdec.out, Hlo.out]
      rintro e w6 ⟨A6, c6, rfl, hx6, hb6⟩
      have b6 := bA.trans (hb6.mono hsA)
      obtain ⟨k1, k2⟩ := HA.out _ hb6
      clear hbw x1 x2 x3 hna
      go_wp2_with fail
      refine (implRoadsFar_any _ _ _ _ _ _ _ _ Hlo.out (by omega) (Rd.of_own hx6) ok1 ok2).mono ?_
      rw [Hf.out]
      rintro e w7 ⟨rfl, hb7⟩
      have b7 := b6.trans (hb7.mono b6.size)
      have a7 := hb6.trans (hb7.mono hb6.size)
      clear k1 k2
      obtain ⟨k1, k2⟩ := HA.out _ a7
      clear hb7 b6 hx6 hb6
      go_wp2_with fail
      refine (implRoadsMany_any _ _ _ _ _ _ _ _ Hl1.out (by omega) (hrd.below b7 (Nat.le_refl _)) ok1 ok2).mono ?_
      rw [Hmn.out]
      rintro e w8 ⟨rfl, hb8⟩
      have b8 := b7.trans (hb8.mono b7.size)
      clear hb8 b7 k1 k2 a7
      have hna := Hn.out _ b8
      cases P
      · go_wp2
        go_roundw
        case rel => exact ⟨a + 1, by omega, by go_num, b8⟩
        case measure => simp [intOf]; omega
      · have Hdm := hideIt (decide_eq_true (Hmem.out rfl))
        go_wp2_with fail
        refine (hasInt_any _ _ _ _ _ _ Hz.out hz1 (hzd.below b8 (Nat.le_refl _))).mono ?_
        rw [Hdm.out]
        rintro e w9 ⟨rfl, rfl⟩
        go_wp2
        go_roundw
        case rel => exact ⟨a + 1, by omega, by go_num, b8⟩
        case measure => simp [intOf]; omega
    · obtain rfl : a = q := by omega
      go_wp2
      go_ret
      exact ⟨rfl, b5.trans (hbw.mono b5.size)⟩
end Go.Proofs.Ytdnjeahbnidefaa.fnNeeded

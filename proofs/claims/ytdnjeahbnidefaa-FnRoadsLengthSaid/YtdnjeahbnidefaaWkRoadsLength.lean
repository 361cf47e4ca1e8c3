/- The walk of FnRoadsLength. -/
import Derived.Test.YtdnjeahbnidefaaDrWh
import Derived.Test.YtdnjeahbnidefaaRo4
import Derived.Test.YtdnjeahbnidefaaRoNt
import Derived.Test.YtdnjeahbnidefaaRlLaw
namespace Go.Proofs.Ytdnjeahbnidefaa.fnRoadsLength
open Go.RowKit

set_option maxRecDepth 100000 in
set_option maxHeartbeats 4000000 in
theorem walk (A : Option Addr) (xs : List Int) (n c : Nat) (w : World) (hl : xs.length = n) (hm : n ≤ maxLen) (hc : n ≤ c) (hx : Bytes xs) (hr : Rd w A (flU xs)) :
    Calls Try.prog 8 #[.slice A n c] w (Ret w (.bool true)) := by
  unfold maxLen at hm
  by_cases hn : n ≤ 1048576
  rotate_left
  · go_enter Try.func8, Try.ntmps8
    go_wp2_with fail
    go_ret
    exact ⟨rfl, Below.refl _ _⟩
  go_enter Try.func8, Try.ntmps8
  go_wp2_with fail
  refine (DrawRoadsLength_any _ xs _ _ _ hl hn hc hx hr).mono ?_
  clear hl hr hx
  rintro e w1 ⟨k, rs, b, m, d, rfl, hk2, hk6, hl1, hm1, ho1, hb1⟩
  have Hl1 := hideIt hl1
  clear hl1
  have hr1 := Rd.of_own ho1
  clear ho1
  cases hv : roadsValid k rs
  · have Hd := hideIt (show roadsLength k rs = -1 by rw [roadsLength, hv]; rfl)
    clear hv
    go_wp2_with fail
    refine (implRoadsLength_any _ _ _ _ _ _ Hl1.out (by omega) hr1).mono ?_
    rw [Hd.out]
    rintro e w2 ⟨rfl, hb2⟩
    have b2 := hb1.trans (hb2.mono hb1.size)
    go_wp2_with fail
    refine (specRoadsLength_any _ _ _ _ _ _ Hl1.out (by omega) (hr1.below hb2 (Nat.le_refl _))).mono ?_
    rw [Hd.out]
    rintro e w3 ⟨rfl, hb3⟩
    go_wp2
    go_ret
    exact ⟨rfl, b2.trans (hb3.mono b2.size)⟩
  obtain ⟨kk, hkk, hrv⟩ := roadsValid_t hv
  obtain rfl : k = kk := by omega
  obtain ⟨S, hS⟩ : ∃ s, sumC rs = s := ⟨_, rfl⟩
  have hS1 := hrv.sumC_in rs.length (Nat.le_refl _)
  rw [Nat.sub_self, List.drop_zero, hS, Hl1.out] at hS1
  obtain ⟨S0, S1⟩ := hS1
  have Hd := hideIt (show roadsLength k rs = S by rw [roadsLength, hv, ← hS]; rfl)
  have HS := hideIt hS
  have Hrv : Hid (RV k rs) := hideIt hrv
  clear hv hkk hrv hS
  go_wp2_with fail
  refine (implRoadsLength_any _ _ _ _ _ _ Hl1.out (by omega) hr1).mono ?_
  rw [Hd.out]
  rintro e w2 ⟨rfl, hb2⟩
  have b2 := hb1.trans (hb2.mono hb1.size)
  have hr2 := hr1.below hb2 (Nat.le_refl _)
  clear hb1 hb2 hr1
  go_wp2_with fail
  refine (specRoadsLength_any _ _ _ _ _ _ Hl1.out (by omega) hr2).mono ?_
  rw [Hd.out]
  rintro e w3 ⟨rfl, hb3⟩
  have q3 := b2.trans (hb3.mono b2.size)
  have hr3 := hr2.below hb3 (Nat.le_refl _)
  clear b2 hb3 hr2
  go_wp2
  go_loopw [7, 8] (fun s i wr => ∃ (j : Nat) (z : Int), j ≤ m ∧ i = .int .i64 j ∧ s = .int .i64 z ∧ Hid (z + sumC (rs.drop j) = S) ∧ 0 ≤ z ∧ z ≤ 99 * j ∧ Below w3.heap.size w3 wr) (fun _ i _ => m - (intOf i).toNat)
  case atStart => exact ⟨0, 0, by omega, rfl, rfl, hideIt (by rw [List.drop_zero, HS.out]; omega), by omega, by omega, Below.refl _ _⟩
  case round =>
    obtain ⟨j, z, hj, rfl, rfl, Hz, z0, z1, bd⟩ := hrel
    by_cases hlt : j < m
    · have hjl : j < rs.length := by rw [Hl1.out]; exact hlt
      obtain ⟨bb, oo, hbe, hblk, hcc⟩ := hr3.at3 hjl
      cases hbe
      obtain ⟨x1, x2, x3⟩ := hcc j hjl
      obtain ⟨r1, r2, r3, r4, r5⟩ := Hrv.out.road j hjl
      obtain ⟨u, hu⟩ : ∃ u, a3 rs j = u := ⟨_, rfl⟩
      obtain ⟨v, hv⟩ : ∃ v, b3 rs j = v := ⟨_, rfl⟩
      obtain ⟨y, hy⟩ : ∃ v, c3 rs j = v := ⟨_, rfl⟩
      have Hst := hideIt (show sumC (rs.drop j) = y + sumC (rs.drop (j + 1)) by rw [sumC_step rs j hjl, hy])
      have Hw := hideIt (show wayLength k rs [u, v] = y by rw [← hu, ← hv, ← hy]; exact Hrv.out.way_one hjl)
      rw [hu] at r1 r2 x1
      rw [hv] at r2 r3 x2
      rw [hy] at r4 r5 x3
      rw [← bd.cell (p := ⟨b, 0 + j * 3, none⟩) hblk, Nat.zero_add] at x1
      rw [← bd.cell (p := ⟨b, 0 + j * 3 + 1, none⟩) hblk, Nat.zero_add] at x2
      have oku : IntOk u := by unfold IntOk; omega
      have okv : IntOk v := by unfold IntOk; omega
      have HZ := hideIt (show (z + y) + sumC (rs.drop (j + 1)) = S by have := Hz.out; have := Hst.out; omega)
      have hzy : IntKind.i64.wrap (z + y) = z + y := IntWalk.i64_in _ (by omega)
      have hrr := hr3.below bd (Nat.le_refl _)
      clear hu hv hy hcc x3 hjl
      have hlit := World.ownsRow_lit (base := wr.heap.size) (e := 3) (size := 1) wr #[.int .i64 u, .int .i64 v] 2 (Nat.le_refl _) (by unfold maxLen; omega) rfl
      have Hok : Hid (∀ i, i < [u, v].length → IntOk (a1 [u, v] i)) := hideIt (fun i hi => by
        match i, hi with
        | 0, _ => exact oku
        | 1, _ => exact okv)
      have bA := bd.alloc bd.size (.cells #[.int .i64 u, .int .i64 v] 3)
      have hsA := bA.size
      go_wp2
      go_region_with (first
        | (go_at_call 29
           refine (implWayLength_any _ _ _ _ _ _ [u, v] 2 2 _ Hl1.out (by omega) (hrr.alloc _).drew rfl (by omega) (Rd.of_own hlit).drew (by omega) Hok.out).mono ?_
           rw [Hw.out]
           rintro e w4 ⟨rfl, hb4⟩
           have b4 := bA.drew.trans (hb4.mono hsA)))
      all_goals
        go_wp2
        go_roundw
        case rel => exact ⟨j + 1, z + y, by omega, by go_num, by go_num, HZ, by omega, by omega, b4⟩
        case measure => simp [intOf]; omega
    · obtain rfl : j = m := by omega
      have hzS : z = S := by
        have h := Hz.out
        rw [List.drop_eq_nil_of_le (by rw [Hl1.out]; omega)] at h
        simp only [sumC, List.foldr_nil] at h
        omega
      subst hzS
      clear Hz z0 z1
      obtain ⟨w4, hw4⟩ : ∃ w4, w4 = wr := ⟨_, rfl⟩
      subst hw4
      have b4 := q3.trans (bd.mono q3.size)
      have hr4 := hr3.below bd (Nat.le_refl _)
      clear q3 bd hr3
      cases hw : whole k rs
      · have Hw := hideIt hw
        have He := hideIt (roadsNet_f hw)
        clear hw
        go_wp2_with fail
        refine (implRoadsNet_any _ _ _ _ _ _ Hl1.out (by omega) hr4).mono ?_
        rw [He.out, Hw.out]
        rintro e w5 ⟨A5, c5, rfl, _, hb5⟩
        go_wp2
        go_loopw [11, 12] (fun s i wr => s = .int .i64 0 ∧ i = .int .i64 0 ∧ w5 = wr) (fun _ _ _ => 0)
        case atStart => exact ⟨rfl, rfl, rfl⟩
        case round =>
          obtain ⟨rfl, rfl, rfl⟩ := hrel
          go_wp2
          go_ret
          exact ⟨rfl, b4.trans (hb5.mono b4.size)⟩
      obtain ⟨Z, hZ⟩ : ∃ p, roadsNet k rs = p := ⟨_, rfl⟩
      obtain ⟨q, hq⟩ : ∃ p, Z.length = p := ⟨_, rfl⟩
      obtain ⟨L1, L2⟩ := Hrv.out.net_sum hw
      have hq1 : q ≤ 1048576 := by rw [← hq, ← hZ]; exact roadsNet_le k rs
      rw [hZ] at L1 L2
      have Hin : Hid (∀ j, j ≤ Z.length → 0 ≤ netSum rs Z j ∧ netSum rs Z j ≤ 99 * j) := hideIt (Hrv.out.net_sum_in L1)
      have HL1 : Hid (∀ j, j < Z.length → ∃ i : Nat, a1 Z j = i ∧ i < rs.length) := hideIt L1
      rw [HS.out, hq] at L2
      have HL2 := hideIt L2
      have Hw := hideIt hw
      have HZ := hideIt hZ
      have Hq := hideIt hq
      clear hw hZ hq L1 L2
      go_wp2_with fail
      refine (implRoadsNet_any _ _ _ _ _ _ Hl1.out (by omega) hr4).mono ?_
      rw [HZ.out, Hw.out, Hq.out]
      rintro e w5 ⟨A5, c5, rfl, hz5, hb5⟩
      have b5 := b4.trans (hb5.mono b4.size)
      have hr5 := hr4.below hb5 (Nat.le_refl _)
      have hz5 := Rd.of_own hz5
      clear b4 hb5 hr4
      go_wp2
      go_loopw [11, 12] (fun s i wr => ∃ (v : Nat) (y : Int), v ≤ q ∧ i = .int .i64 v ∧ s = .int .i64 y ∧ Hid (y = netSum rs Z v) ∧ 0 ≤ y ∧ y ≤ 99 * v ∧ w5 = wr) (fun _ i _ => q - (intOf i).toNat)
      case atStart => exact ⟨0, 0, by omega, rfl, rfl, hideIt rfl, by omega, by omega, rfl⟩
      case round =>
        obtain ⟨v, y, hj, rfl, rfl, Hy, y0, y1, rfl⟩ := hrel
        by_cases hlv : v < q
        · obtain ⟨t, ht, htl⟩ := HL1.out v (by rw [Hq.out]; exact hlv)
          obtain ⟨nb, no, rfl, hnl, hnc⟩ := hz5.at1 (k := v) (by rw [Hq.out]; exact hlv)
          have hcj := hnc v (by rw [Hq.out]; exact hlv)
          rw [ht] at hcj
          obtain ⟨bb, oo, hbe, hblk, hcc⟩ := hr5.at3 htl
          cases hbe
          obtain ⟨x1, x2, x3⟩ := hcc t htl
          have hy2 := Hin.out (v + 1) (by rw [Hq.out]; omega)
          have hst : netSum rs Z (v + 1) = y + c3 rs t := by unfold netSum; rw [sumTo, ht, Int.toNat_natCast, Hy.out]; rfl
          obtain ⟨g, hg⟩ : ∃ g, c3 rs t = g := ⟨_, rfl⟩
          rw [hg] at hst x3
          rw [hst] at hy2
          have HY := hideIt (show y + g = netSum rs Z (v + 1) from hst.symm)
          rw [Nat.zero_add] at x1 x2 x3
          have hyg : IntKind.i64.wrap (y + g) = y + g := IntWalk.i64_in _ (by omega)
          have htm : (t : Int) < (j : Int) := by rw [← Hl1.out]; omega
          clear hnc ht hcc hst hg htl
          go_wp2
          go_roundw
          case rel => exact ⟨v + 1, y + g, by omega, by go_num, by go_num, HY, by omega, by omega, trivial⟩
          case measure => simp [intOf]; omega
        · obtain rfl : v = q := by omega
          have hle : y ≤ z := by rw [Hy.out]; exact HL2.out
          have hdl := decide_eq_true hle
          clear Hy
          go_wp2
          go_ret
          exact ⟨rfl, b5⟩
end Go.Proofs.Ytdnjeahbnidefaa.fnRoadsLength

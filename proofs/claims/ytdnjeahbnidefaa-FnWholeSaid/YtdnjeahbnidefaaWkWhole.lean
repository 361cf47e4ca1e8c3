/- The walk of FnWhole. -/
import Derived.Test.YtdnjeahbnidefaaDrWh
import Derived.Test.YtdnjeahbnidefaaRoWh
import Derived.Test.YtdnjeahbnidefaaRoNeed2
import Derived.Test.YtdnjeahbnidefaaHasInt
import Derived.Test.YtdnjeahbnidefaaWhLaw
namespace Go.Proofs.Ytdnjeahbnidefaa.fnWhole
open Go.RowKit

set_option maxRecDepth 100000 in
set_option maxHeartbeats 4000000 in
theorem walk (A : Option Addr) (xs : List Int) (n c : Nat) (A' : Option Addr) (xs' : List Int) (n' c' : Nat) (w : World) (hl : xs.length = n) (hm : n ≤ maxLen) (hc : n ≤ c) (hx : Bytes xs) (hr : Rd w A (flU xs))
    (_hl' : xs'.length = n') (hm' : n' ≤ maxLen) (_hc' : n' ≤ c') (_hx' : Bytes xs') (_hr' : Rd w A' (flU xs')) :
    Calls Try.prog 5 #[.slice A n c, .slice A' n' c'] w (Ret w (.bool true)) := by
  unfold maxLen at hm hm'
  by_cases hn : n ≤ 1048576
  rotate_left
  · go_enter Try.func5, Try.ntmps5
    go_wp2_with fail
    go_ret
    exact ⟨rfl, Below.refl _ _⟩
  by_cases hn' : n' ≤ 1048576
  rotate_left
  · go_enter Try.func5, Try.ntmps5
    go_wp2_with fail
    go_ret
    exact ⟨rfl, Below.refl _ _⟩
  go_enter Try.func5, Try.ntmps5
  go_wp2_with fail
  refine (DrawRoadsWhole_any _ xs _ _ _ hl hn hc hx hr).mono ?_
  clear hl _hl' hr _hr' hx _hx'
  rintro e w1 ⟨k, rs, b, m, d, rfl, hk2, hk6, hl1, hm1, ho1, hb1⟩
  have Hl1 := hideIt hl1
  clear hl1
  cases hw : whole k rs
  · have Hw := hideIt hw
    clear hw
    go_wp2_with fail
    refine (implRoadsWhole_any _ _ _ _ _ _ _ Hl1.out (by omega) (Rd.of_own ho1) Hw.out).mono ?_
    rintro e w2 ⟨rfl, hb2⟩
    have b2 := hb1.trans (hb2.mono hb1.size)
    go_wp2_with fail
    refine (specRoadsWhole_any _ _ _ _ _ _ _ Hl1.out (by omega) ((Rd.of_own ho1).below hb2 (Nat.le_refl _)) Hw.out).mono ?_
    rintro e w3 ⟨rfl, hb3⟩
    go_wp2
    go_ret
    exact ⟨rfl, b2.trans (hb3.mono b2.size)⟩
  obtain ⟨kk, hkk, hrv, hcn⟩ := whole_t hw
  obtain rfl : k = kk := by omega
  have hvv := roadsValid_of hrv
  have hlen := hrv.whole_len hcn
  rw [Hl1.out] at hlen
  obtain ⟨p, hp⟩ : ∃ q, n' % k = q := ⟨_, rfl⟩
  obtain ⟨q, hq⟩ : ∃ q, n' / 11 % k = q := ⟨_, rfl⟩
  obtain ⟨j, hj⟩ : ∃ q, n' / 3 % m = q := ⟨_, rfl⟩
  have hpk : p < k := by rw [← hp]; exact Nat.mod_lt _ (by omega)
  have hqk : q < k := by rw [← hq]; exact Nat.mod_lt _ (by omega)
  have hjm : j < m := by rw [← hj]; exact Nat.mod_lt _ (by omega)
  have hrem : (n' : Int).tmod (k : Int) = (p : Int) := by rw [← hp]; exact (Int.ofNat_tmod n' k).symm
  have hrem2 : ((n' : Int).tdiv 11).tmod (k : Int) = (q : Int) := by rw [← hq]; rfl
  have hrem3 : ((n' : Int) / 11).tmod (k : Int) = (q : Int) := by rw [← hq]; exact (Int.ofNat_tmod (n' / 11) k).symm
  have hrem4 : ((n' : Int).tdiv 3).tmod (m : Int) = (j : Int) := by rw [← hj]; rfl
  have hrem5 : ((n' : Int) / 3).tmod (m : Int) = (j : Int) := by rw [← hj]; exact (Int.ofNat_tmod (n' / 3) m).symm
  have okp : IntOk (p : Int) := by unfold IntOk; omega
  have okq : IntOk (q : Int) := by unfold IntOk; omega
  have hk1 : (1 : Int) ≤ (k : Int) := by omega
  have hk0 : ((k : Int) == 0) = false := by simp; omega
  have hkn : ¬ (k : Int) = 0 := by omega
  have hm0 : ((m : Int) == 0) = false := by simp; omega
  have hmn : ¬ (m : Int) = 0 := by omega
  have hjl : j < rs.length := by rw [Hl1.out]; exact hjm
  obtain ⟨hd0, hcl⟩ := hrv.close_at hjl
  have hww := hrv.whole_without hcn hjl
  obtain ⟨r1, r2, r3, r4, r5⟩ := hrv.road j hjl
  have hfar : 0 ≤ roadsFar k rs p q := by rw [roadsFar_in hvv hpk hqk]; exact (hrv.all_dist hcn hpk hqk).1
  obtain ⟨F, hF⟩ : ∃ f, roadsFar k rs p q = f := ⟨_, rfl⟩
  obtain ⟨N, hN⟩ : ∃ f, needed k rs = f := ⟨_, rfl⟩
  obtain ⟨x, hxe⟩ : ∃ f, a3 rs j = f := ⟨_, rfl⟩
  obtain ⟨y, hye⟩ : ∃ f, b3 rs j = f := ⟨_, rfl⟩
  rw [hF] at hfar
  rw [hN] at hww
  rw [hxe, hye] at hd0 hcl
  rw [hxe] at r1 r2
  rw [hye] at r2 r3
  have okx : IntOk x := by unfold IntOk; omega
  have oky : IntOk y := by unfold IntOk; omega
  have HF := hideIt hF
  have HNl := hideIt (show N.length ≤ 1048576 by rw [← hN]; exact needed_le k rs)
  have HN := hideIt hN
  have Hcl := hideIt hcl
  have Hdec := hideIt (decide_eq_true hd0)
  have Hww := hideIt hww
  have Hlo := hideIt (show (lessR rs j).length = m - 1 by rw [without_len j hjl, Hl1.out])
  have Hw := hideIt hw
  have Hcell := hideIt (fun (w' : World) (h : w'.ownsRow w.heap.size 32 3 (.slice (some ⟨b, 0, none⟩) m d) m (fl3 rs)) => show w'.cell? ⟨b, j * 3, none⟩ = some (.int .i64 x) ∧ w'.cell? ⟨b, j * 3 + 1, none⟩ = some (.int .i64 y) from by
    obtain ⟨bb, oo, hbe, _, hcc⟩ := (Rd.of_own h).at3 hjl
    cases hbe
    obtain ⟨g1, g2, _⟩ := hcc j hjl
    rw [hxe, Nat.zero_add] at g1
    rw [hye, Nat.zero_add] at g2
    exact ⟨g1, g2⟩)
  have hjmi : (j : Int) < (m : Int) := by omega
  have hms := IntWalk.i64_in ((k : Int) - 1) (by omega)
  have hcap := own_cap ho1
  clear hkk hrv hcn hvv hp hq hj hjl hd0 hcl hww r1 r2 r3 r4 r5 hF hN hxe hye hw
  go_wp2_with fail
  refine (implRoadsWhole_any _ _ _ _ _ _ _ Hl1.out (by omega) (Rd.of_own ho1) Hw.out).mono ?_
  rintro e w2 ⟨rfl, hb2⟩
  have b2 := hb1.trans (hb2.mono hb1.size)
  have ho2 := own_below ho1 hb2 (Nat.le_refl _)
  clear ho1 hb2 hb1
  go_wp2_with fail
  refine (specRoadsWhole_any _ _ _ _ _ _ _ Hl1.out (by omega) (Rd.of_own ho2) Hw.out).mono ?_
  rintro e w3 ⟨rfl, hb3⟩
  have b3 := b2.trans (hb3.mono b2.size)
  have ho3 := own_below ho2 hb3 (Nat.le_refl _)
  clear ho2 hb3 b2
  go_wp2_with fail
  refine (implRoadsNeeded_any _ _ _ _ _ _ Hl1.out (by omega) (Rd.of_own ho3) hcap).mono ?_
  rw [HN.out]
  rintro e w4 ⟨A4, c4, rfl, hn4, hb4⟩
  have b4 := b3.trans (hb4.mono b3.size)
  have ho4 := own_below ho3 hb4 (Nat.le_refl _)
  clear ho3 hb4 b3
  obtain ⟨hc1, hc2⟩ := Hcell.out w4 ho4
  have hF0 : ¬ F < 0 := by omega
  have hkm : ¬ (m : Int) < (k : Int) - 1 := by omega
  go_wp2_with fail
  refine (implRoadsFar_any _ _ _ _ _ _ _ _ Hl1.out (by omega) (Rd.of_own ho4) okp okq).mono ?_
  rw [HF.out]
  rintro e w5 ⟨rfl, hb5⟩
  have b5 := b4.trans (hb5.mono b4.size)
  have ho5 := own_below ho4 hb5 (Nat.le_refl _)
  have hn5 := own_below hn4 hb5 (Nat.le_refl _)
  clear ho4 hn4 hb5 b4 hc1 hc2
  obtain ⟨hc1, hc2⟩ := Hcell.out w5 ho5
  have HK := hideIt (fun (w' : World) (h : Below w5.heap.size w5 w') => show w'.cell? ⟨b, j * 3, none⟩ = some (.int .i64 x) ∧ w'.cell? ⟨b, j * 3 + 1, none⟩ = some (.int .i64 y) ∧ Below w5.heap.size w5 w' from
    ⟨(h.cell (p := ⟨b, j * 3, none⟩) (World.block_lt_of_cell? w5 _ hc1)).trans hc1, (h.cell (p := ⟨b, j * 3 + 1, none⟩) (World.block_lt_of_cell? w5 _ hc2)).trans hc2, h⟩)
  go_wp2
  go_region_held3 (fun w' => w'.cell? ⟨b, j * 3, none⟩ = some (.int .i64 x) ∧ w'.cell? ⟨b, j * 3 + 1, none⟩ = some (.int .i64 y) ∧ Below w5.heap.size w5 w')
    (first
      | exact HK.out _ (Below.refl _ _).drew
      | exact HK.out _ B1)
    (first
      | (go_split_ands
         go_at_call 14
         refine (implRoadsClose_any _ _ _ _ _ _ _ _ Hl1.out (by omega) ((Rd.of_own ho5).below (by assumption) (Nat.le_refl _)) hcap okx oky).mono ?_
         rw [Hcl.out, Hdec.out, Hlo.out]
         rintro e w6 ⟨A6, c6, rfl, hx6, hb6⟩
         have B1 := below_from (by assumption) hb6))
  all_goals
    have b6 := b5.trans (B1.mono b5.size)
    have hn6 := own_below hn5 B1 (Nat.le_refl _)
    clear ho5 hn5 B1 b5 hc1 hc2 HK Hcell
    go_wp2_with fail
    refine (implRoadsWhole_any _ _ _ _ _ _ _ Hlo.out (by omega) (Rd.of_own hx6) Hww.out).mono ?_
    rintro e w7 ⟨rfl, hb7⟩
    have b7 := b6.trans (hb7.mono b6.size)
    have hn7 := own_below hn6 hb7 (Nat.le_refl _)
    clear hn6 hb7 b6
    go_wp2_with fail
    refine (hasInt_any _ _ _ _ _ _ rfl HNl.out (Rd.of_own hn7)).mono ?_
    rintro e w8 ⟨rfl, rfl⟩
    go_wp2
    go_ret
    exact ⟨by simp, b7⟩
end Go.Proofs.Ytdnjeahbnidefaa.fnWhole

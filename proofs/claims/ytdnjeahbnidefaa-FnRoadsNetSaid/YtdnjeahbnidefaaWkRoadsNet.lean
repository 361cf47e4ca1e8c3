/- The walk of FnRoadsNet. -/
import Derived.Test.YtdnjeahbnidefaaDrWh
import Derived.Test.YtdnjeahbnidefaaRoNeed
import Derived.Test.YtdnjeahbnidefaaRoNt
import Derived.Test.YtdnjeahbnidefaaRoNt2
import Derived.Test.YtdnjeahbnidefaaRoWy
import Derived.Test.YtdnjeahbnidefaaRoWh
import Derived.Test.YtdnjeahbnidefaaSame
import Derived.Test.YtdnjeahbnidefaaRnLaw
namespace Go.Proofs.Ytdnjeahbnidefaa.fnRoadsNet
open Go.RowKit

theorem take_snoc (T : List Nat) {j : Nat} (h : j < T.length) : T.take (j + 1) = T.take j ++ [T.getD j 0] := by
  rw [List.take_add_one, List.getElem?_eq_getElem h, List.getD_eq_getElem?_getD, List.getElem?_eq_getElem h]
  rfl

set_option maxRecDepth 100000 in
set_option maxHeartbeats 8000000 in
theorem walk (A : Option Addr) (xs : List Int) (n c : Nat) (w : World) (hl : xs.length = n) (hm : n ≤ maxLen) (hc : n ≤ c) (hx : Bytes xs) (hr : Rd w A (flU xs)) :
    Calls Try.prog 4 #[.slice A n c] w (Ret w (.bool true)) := by
  unfold maxLen at hm
  by_cases hn : n ≤ 1048576
  rotate_left
  · go_enter Try.func4, Try.ntmps4
    go_wp2_with fail
    go_ret
    exact ⟨rfl, Below.refl _ _⟩
  go_enter Try.func4, Try.ntmps4
  go_wp2_with fail
  refine (DrawRoadsNet_any _ xs _ _ _ hl hn hc hx hr).mono ?_
  clear hl hr hx
  rintro e w1 ⟨k, rs, b, m, d, rfl, hk2, hk6, hl1, hm1, ho1, hb1⟩
  have Hl1 := hideIt hl1
  clear hl1
  have hr1 := Rd.of_own ho1
  clear ho1
  cases hw : whole k rs
  · have Hw := hideIt hw
    have Hm := hideIt (roadsNet_f hw)
    clear hw
    go_wp2_with fail
    refine (implRoadsNet_any _ _ _ _ _ _ Hl1.out (by omega) hr1).mono ?_
    rw [Hm.out, Hw.out]
    rintro e w2 ⟨A2, c2, rfl, _, hb2⟩
    have b2 := hb1.trans (hb2.mono hb1.size)
    go_wp2_with fail
    refine (specRoadsNet_any _ _ _ _ _ _ Hl1.out (by omega) (hr1.below hb2 (Nat.le_refl _))).mono ?_
    rw [Hm.out, Hw.out]
    rintro e w3 ⟨A3, d3, rfl, _, hb3⟩
    have q3 := b2.trans (hb3.mono b2.size)
    go_wp2_with fail
    refine (sameInts_any _ _ [] [] _ _ _ _ _ rfl rfl (Nat.zero_le _) (Nat.zero_le _) (Rd.nil _ _) (Rd.nil _ _)).mono ?_
    rintro e w4 ⟨rfl, hb4⟩
    have b4 := q3.trans (hb4.mono q3.size)
    go_wp2_with fail
    refine (sameInts_any _ _ [] [] _ _ _ _ _ rfl rfl (Nat.zero_le _) (Nat.zero_le _) (Rd.nil _ _) (Rd.nil _ _)).mono ?_
    rintro e w5 ⟨rfl, hb5⟩
    go_wp2
    go_ret
    exact ⟨rfl, b4.trans (hb5.mono b4.size)⟩
  obtain ⟨kk, hkk, hrv, hcn⟩ := whole_t hw
  obtain rfl : k = kk := by omega
  obtain ⟨T, hT⟩ : ∃ T, netL k rs = T := ⟨_, rfl⟩
  obtain ⟨q, hq⟩ : ∃ q, T.length = q := ⟨_, rfl⟩
  have hqk : q = k - 1 := by rw [← hq, ← hT]; exact hrv.netL_len hcn
  have hTl : ∀ j, j < q → T.getD j 0 < rs.length := fun j hj => by
    have hj' : j < T.length := by omega
    rw [List.getD_eq_getElem?_getD, List.getElem?_eq_getElem hj']
    exact hrv.netL_idx.2 _ (by rw [hT]; exact List.getElem_mem hj')
  obtain ⟨N1, N2, N3, N4⟩ := hrv.net_law hcn
  obtain ⟨R, hR⟩ : ∃ R, netR k rs = R := ⟨_, rfl⟩
  have hRT : pick3 rs T = R := by rw [← hR, ← hT]; rfl
  rw [hR] at N1 N2 N3 N4
  rw [← hqk] at N2 N4
  have Hway : Hid (∀ g, g < m → ∃ W : List Int, roadsWay k R (a3 rs g) (b3 rs g) = W ∧ 0 ≤ roadsFar k R (a3 rs g) (b3 rs g) ∧ W.length ≤ 801 ∧ (∀ i, i < W.length → 0 ≤ a1 W i ∧ a1 W i < k) ∧ ∀ j, 1 ≤ j → j < W.length → -1 ≤ direct k R (a1 W (j - 1)) (a1 W j) ∧ direct k R (a1 W (j - 1)) (a1 W j) ≤ c3 rs g) := hideIt (fun g hg => by
    rw [← hR]
    exact hrv.net_way hcn (by rw [Hl1.out]; exact hg))
  have Hroad : Hid (∀ g, g < m → IntOk (a3 rs g) ∧ IntOk (b3 rs g) ∧ 1 ≤ c3 rs g ∧ c3 rs g ≤ 99) := hideIt (fun g hg => by
    have := hrv.road g (by rw [Hl1.out]; exact hg)
    unfold IntOk
    omega)
  have HTl : Hid (∀ j, j < q → T.getD j 0 < rs.length) := hideIt hTl
  have HZ := hideIt (show roadsNet k rs = castL T by rw [roadsNet_t hw, hT])
  have Hq := hideIt hq
  have HZl := hideIt (show (castL T).length = q by rw [castL_len, hq])
  have HRT := hideIt hRT
  have Hw := hideIt hw
  have HRl := hideIt N2
  have HRw := hideIt N3
  have HRn := hideIt N4
  obtain ⟨j0, hj, hy0, hy1, hy2⟩ := info_parts info_Road
  have HQ := hideIt (show q + 1 = k by omega)
  have hq6 : q ≤ 5 := by omega
  have hq1 : 1 ≤ q := by omega
  clear hkk hrv hcn hT hq hTl N1 N2 N3 N4 hR hRT hw hqk
  go_wp2_with fail
  refine (implRoadsNet_any _ _ _ _ _ _ Hl1.out (by omega) hr1).mono ?_
  rw [HZ.out, Hw.out, HZl.out]
  rintro e w2 ⟨A2, c2, rfl, hw2, hb2⟩
  have b2 := hb1.trans (hb2.mono hb1.size)
  have hr2 := hr1.below hb2 (Nat.le_refl _)
  clear hb1 hb2 hr1
  go_wp2_with fail
  refine (specRoadsNet_any _ _ _ _ _ _ Hl1.out (by omega) hr2).mono ?_
  rw [HZ.out, Hw.out, HZl.out]
  rintro e w3 ⟨A3, d3, rfl, hw3', hb3⟩
  have q3 := b2.trans (hb3.mono b2.size)
  have hr3 := hr2.below hb3 (Nat.le_refl _)
  have hw3 := own_below hw2 hb3 (Nat.le_refl _)
  clear b2 hb3 hr2 hw2
  go_wp2_with fail
  refine (sameInts_any _ _ _ _ _ _ _ _ _ HZl.out HZl.out (by omega) (by omega) (Rd.of_own hw3) (Rd.of_own hw3')).mono ?_
  rw [decide_eq_true rfl]
  rintro e w4 ⟨rfl, hb4⟩
  have b4 := q3.trans (hb4.mono q3.size)
  have hr4 := hr3.below hb4 (Nat.le_refl _)
  have hwd := Rd.of_own (own_below hw3 hb4 (Nat.le_refl _))
  clear q3 hb4 hr3 hw3 hw3'
  obtain ⟨nb, no, rfl, hnl, hnc⟩ := hwd.at1 (k := 0) (by rw [HZl.out]; omega)
  have Hnc : Hid (∀ w', Below w4.heap.size w4 w' → ∀ i, i < q → w'.cell? ⟨nb, no + i, none⟩ = some (.int .i64 ((T.getD i 0 : Nat) : Int))) := hideIt (fun w' hb i hi => by
    rw [← castL_at]
    exact (hb.cell (p := ⟨nb, no + i, none⟩) hnl).trans (hnc i (by rw [HZl.out]; exact hi)))
  have Hrc : Hid (∀ w', Below w4.heap.size w4 w' → ∀ i, i < m → w'.cell? ⟨b, i * 3, none⟩ = some (.int .i64 (a3 rs i)) ∧ w'.cell? ⟨b, i * 3 + 1, none⟩ = some (.int .i64 (b3 rs i)) ∧ w'.cell? ⟨b, i * 3 + 2, none⟩ = some (.int .i64 (c3 rs i))) := hideIt (fun w' hb i hi => by
    obtain ⟨bb, oo, hbe, hblk, hcc⟩ := hr4.at3 (k := i) (by rw [Hl1.out]; exact hi)
    cases hbe
    obtain ⟨x1, x2, x3⟩ := hcc i (by rw [Hl1.out]; exact hi)
    rw [Nat.zero_add] at x1 x2 x3
    exact ⟨(hb.cell (p := ⟨b, i * 3, none⟩) hblk).trans x1, (hb.cell (p := ⟨b, i * 3 + 1, none⟩) hblk).trans x2, (hb.cell (p := ⟨b, i * 3 + 2, none⟩) hblk).trans x3⟩)
  clear hnc
  have ht0 := own_empty w4 32 3
  have bt0 := (Below.refl w4.heap.size w4).alloc (Nat.le_refl _) (.cells #[] 32)
  go_wp2
  go_loopw [9, 10] (fun tk i wr => ∃ (j cc : Nat) (B : Option Addr), j ≤ q ∧ i = .int .i64 j ∧ tk = .slice B j cc ∧ wr.ownsRow w4.heap.size 32 3 (.slice B j cc) j (fl3 (pick3 rs (T.take j))) ∧ Below w4.heap.size w4 wr) (fun _ i _ => q - (intOf i).toNat)
  case atStart => exact ⟨0, 0, _, by omega, rfl, rfl, ht0, bt0⟩
  case round =>
    obtain ⟨j, cc, B, hjq, rfl, rfl, htk, bd⟩ := hrel
    clear ht0 bt0
    have hsz := bd.size
    by_cases hlt : j < q
    · obtain ⟨t, ht⟩ : ∃ t, T.getD j 0 = t := ⟨_, rfl⟩
      have htl := HTl.out j hlt
      have hcj := Hnc.out _ bd j hlt
      rw [ht] at htl hcj
      rw [Hl1.out] at htl
      have Htk := hideIt (show fl3 (pick3 rs (T.take (j + 1))) = fl3 (pick3 rs (T.take j)) ++ [.int .i64 (a3 rs t), .int .i64 (b3 rs t), .int .i64 (c3 rs t)] by
        rw [take_snoc T (by rw [Hq.out]; exact hlt), ht, pick3_snoc, fl3, List.flatMap_append]
        rfl)
      obtain ⟨x1, x2, x3⟩ := Hrc.out _ bd t htl
      obtain ⟨x, hxe⟩ : ∃ q, a3 rs t = q := ⟨_, rfl⟩
      obtain ⟨y, hye⟩ : ∃ q, b3 rs t = q := ⟨_, rfl⟩
      obtain ⟨z, hze⟩ : ∃ q, c3 rs t = q := ⟨_, rfl⟩
      rw [hxe, hye, hze] at Htk
      rw [hxe] at x1
      rw [hye] at x2
      rw [hze] at x3
      have htm : (t : Int) < (m : Int) := by omega
      have hjqi : (j : Int) < (q : Int) := by omega
      have ht6 := htk.alloc (.cells #[.int .i64 x, .int .i64 y, .int .i64 z] 32)
      have bP6 := bd.alloc hsz (.cells #[.int .i64 x, .int .i64 y, .int .i64 z] 32)
      have hsz6 : w4.heap.size ≤ (wr.alloc (.cells #[.int .i64 x, .int .i64 y, .int .i64 z] 32)).heap.size := bP6.size
      clear ht hxe hye hze htk bd
      go_wp2_with (at_builtin; refine wpList_append_own _ rfl (.tmp 63) (.tmp 71) 23 rfl w4.heap.size 32 j0 _ 3 24 Try.underlying23 hj hy0 hy1 hy2 rfl (by decide) _ _ _ rfl ht6 ⟨wr.heap.size, 0, none⟩ 1 1 [.int .i64 x, .int .i64 y, .int .i64 z] rfl rfl (news_at (cs := #[.int .i64 x, .int .i64 y, .int .i64 z]) (t := 32) (heap_alloc_new wr _)) (by simp [Value.oneCell']) (by unfold maxLen; omega) (by omega) hsz6 ?_; intro v7 w7 ht7 hg7 hnn; clear hnn; have b7 := bP6.grown hg7 hsz6 (fun q hq => (ht6.lt q hq).1); obtain ⟨A7, c7, rfl⟩ := own_form ht7)
      go_roundw
      case rel => exact ⟨j + 1, c7, A7, by omega, by go_num, rfl, by rw [Htk.out]; exact ht7, b7⟩
      case measure => simp [intOf]; omega
    · obtain rfl : j = q := by omega
      obtain ⟨w5, hw5⟩ : ∃ w5, w5 = wr := ⟨_, rfl⟩
      subst hw5
      have hfull : pick3 rs (T.take j) = R := by rw [List.take_of_length_le (by rw [Hq.out]; omega), HRT.out]
      rw [hfull] at htk
      have hcapT := own_cap htk
      have htd := Rd.of_own htk
      have b5 := b4.trans (bd.mono b4.size)
      clear htk hfull b4
      go_wp2
      go_loopw [11] (fun i wr => ∃ g : Nat, g ≤ m ∧ i = .int .i64 g ∧ Below w5.heap.size w5 wr) (fun i _ => m - (intOf i).toNat)
      case atStart => exact ⟨0, by omega, rfl, Below.refl _ _⟩
      case round =>
        obtain ⟨g, hg, rfl, be⟩ := hrel
        obtain ⟨w6, hw6⟩ : ∃ w6, w6 = wr := ⟨_, rfl⟩
        subst hw6
        by_cases hlg : g < m
        · obtain ⟨x1, x2, x3⟩ := Hrc.out _ (bd.trans (be.mono bd.size)) g hlg
          obtain ⟨okx, oky, z1, z9⟩ := Hroad.out g hlg
          obtain ⟨W, hW, hF, hWl, hWi, hWd⟩ := Hway.out g hlg
          obtain ⟨l, hll⟩ : ∃ l, W.length = l := ⟨_, rfl⟩
          rw [hll] at hWl hWi hWd
          obtain ⟨x, hxe⟩ : ∃ q, a3 rs g = q := ⟨_, rfl⟩
          obtain ⟨y, hye⟩ : ∃ q, b3 rs g = q := ⟨_, rfl⟩
          obtain ⟨z, hze⟩ : ∃ q, c3 rs g = q := ⟨_, rfl⟩
          rw [hxe, hye] at hW hF
          rw [hze] at hWd x3 z1 z9
          rw [hxe] at okx x1
          rw [hye] at oky x2
          have HW := hideIt hW
          have Hl := hideIt hll
          have Hze := hideIt hze
          have HF := hideIt (decide_eq_true hF)
          have HWi : Hid (∀ i, i < l → 0 ≤ a1 W i ∧ a1 W i < k) := hideIt hWi
          have HWd : Hid (∀ j, 1 ≤ j → j < l → -1 ≤ direct k R (a1 W (j - 1)) (a1 W j) ∧ direct k R (a1 W (j - 1)) (a1 W j) ≤ z) := hideIt hWd
          have hgm : (g : Int) < (m : Int) := by omega
          have hse := be.size
          clear hW hF hWi hWd hll hxe hye hze
          go_wp2_with fail
          go_region_with (first
            | (go_at_call 20
               refine (implRoadsWay_any _ _ _ _ _ _ _ _ HRl.out (by omega) (htd.below be (Nat.le_refl _)).drew okx oky).mono ?_
               rw [HW.out, HF.out, Hl.out]
               rintro e w7 ⟨A7, c7, rfl, hw7, hb7⟩
               have b7 := be.drew.trans (hb7.mono hse)))
          all_goals
            have hwy := Rd.of_own hw7
            have hs7 := b7.size
            clear hb7 hw7 x1 x2 x3
            go_wp2
            go_loopw [14] (fun i wr => ∃ v : Nat, 1 ≤ v ∧ (v ≤ l ∨ v = 1) ∧ i = .int .i64 v ∧ Below w7.heap.size w7 wr) (fun i _ => l + 2 - (intOf i).toNat)
            case atStart => exact ⟨1, by omega, by omega, rfl, Below.refl _ _⟩
            case round =>
              obtain ⟨v, v1, hv, rfl, bf⟩ := hrel
              by_cases hlv : v < l
              · have bw := b7.trans (bf.mono hs7)
                obtain ⟨_, _, x3⟩ := Hrc.out _ (bd.trans (bw.mono bd.size)) g hlg
                rw [Hze.out] at x3
                obtain ⟨ab, ao, rfl, hal, hac⟩ := hwy.at1 (k := v) (by rw [Hl.out]; exact hlv)
                have y1 := (bf.cell (p := ⟨ab, ao + (v - 1), none⟩) hal).trans (hac (v - 1) (by rw [Hl.out]; omega))
                have y2 := (bf.cell (p := ⟨ab, ao + v, none⟩) hal).trans (hac v (by rw [Hl.out]; exact hlv))
                obtain ⟨d1, d2⟩ := HWd.out v v1 hlv
                have i1 := HWi.out (v - 1) (by omega)
                have i2 := HWi.out v hlv
                obtain ⟨p, hp⟩ : ∃ q, a1 W (v - 1) = q := ⟨_, rfl⟩
                obtain ⟨r, hr⟩ : ∃ q, a1 W v = q := ⟨_, rfl⟩
                rw [hp, hr] at d1 d2
                rw [hp] at y1 i1
                rw [hr] at y2 i2
                obtain ⟨D, hD⟩ : ∃ D, direct k R p r = D := ⟨_, rfl⟩
                rw [hD] at d1 d2
                have HD := hideIt hD
                have okp : IntOk p := by unfold IntOk; omega
                have okr : IntOk r := by unfold IntOk; omega
                have hvi : (v : Int) < (l : Int) := by omega
                have hwv : IntKind.i64.wrap ((v : Int) - 1) = (v : Int) - 1 := IntWalk.i64_in _ (by omega)
                have hv0 : (0 : Int) ≤ (v : Int) - 1 := by omega
                have hv9 : (v : Int) - 1 < (l : Int) := by omega
                have hvt : ((v : Int) - 1).toNat = v - 1 := by omega
                have hva : (1 : Int) ≤ (v : Int) := by omega
                have hvb : (v : Int) < (l : Int) + 1 := by omega
                have hvc : (v : Int) ≤ (l : Int) := by omega
                have HK := hideIt (fun (w' : World) (h : Below wr.heap.size wr w') => show w'.cell? ⟨ab, ao + (v - 1), none⟩ = some (.int .i64 p) ∧ w'.cell? ⟨ab, ao + v, none⟩ = some (.int .i64 r) ∧ w'.cell? ⟨b, g * 3 + 2, none⟩ = some (.int .i64 z) ∧ Below wr.heap.size wr w' from
                  ⟨(h.cell (p := ⟨ab, ao + (v - 1), none⟩) (World.block_lt_of_cell? wr _ y1)).trans y1, (h.cell (p := ⟨ab, ao + v, none⟩) (World.block_lt_of_cell? wr _ y2)).trans y2, (h.cell (p := ⟨b, g * 3 + 2, none⟩) (World.block_lt_of_cell? wr _ x3)).trans x3, h⟩)
                have hsf := bf.size
                have hzD : ¬ z < D := by omega
                clear hp hr hD hac d2 i1 i2
                go_wp2
                go_region_held3 (fun w' => w'.cell? ⟨ab, ao + (v - 1), none⟩ = some (.int .i64 p) ∧ w'.cell? ⟨ab, ao + v, none⟩ = some (.int .i64 r) ∧ w'.cell? ⟨b, g * 3 + 2, none⟩ = some (.int .i64 z) ∧ Below wr.heap.size wr w')
                  (first
                    | exact HK.out _ (Below.refl _ _).drew
                    | exact HK.out _ B1)
                  (first
                    | (go_split_ands
                       go_at_call 21
                       refine (implRoadsDirect_any _ _ _ _ _ _ _ _ HRl.out (by omega) ((htd.below bw (Nat.le_refl _)).below (by assumption) (Nat.le_refl _)) okp okr).mono ?_
                       rw [HD.out]
                       rintro e w8 ⟨rfl, hb8⟩
                       have B1 := below_from (by assumption) hb8))
                all_goals
                  have b8 := bf.trans (B1.mono hsf)
                  go_wp2
                  go_roundw
                  case rel => exact ⟨v + 1, by omega, by omega, by go_num, b8⟩
                  case measure => simp [intOf]; omega
              · go_wp2
                go_roundw
                case rel => exact ⟨g + 1, by omega, by go_num, b7.trans (bf.mono hs7)⟩
                case measure => simp [intOf]; omega
        · obtain rfl : g = m := by omega
          have b6 := b5.trans (be.mono b5.size)
          have hwk : IntKind.i64.wrap ((k : Int) - 1) = (j : Int) := by
            have := HQ.out
            rw [show (k : Int) - 1 = (j : Int) by omega]
            exact IntWalk.i64_in _ (by omega)
          go_wp2_with fail
          refine (implRoadsWhole_any _ _ _ _ _ _ _ HRl.out (by omega) (htd.below be (Nat.le_refl _)) HRw.out).mono ?_
          rintro e w7 ⟨rfl, hb7⟩
          have b7 := be.trans (hb7.mono be.size)
          clear hb7 be b6
          go_wp2_with fail
          refine (implRoadsNeeded_any _ _ _ _ _ _ HRl.out (by omega) (htd.below b7 (Nat.le_refl _)) hcapT).mono ?_
          rw [HRn.out]
          rintro e w8 ⟨A8, c8, rfl, _, hb8⟩
          have b8 := b7.trans (hb8.mono b7.size)
          go_wp2
          go_ret
          exact ⟨by simp, b5.trans (b8.mono b5.size)⟩
end Go.Proofs.Ytdnjeahbnidefaa.fnRoadsNet

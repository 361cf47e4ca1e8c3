/- Walks: RoadsNeeded of the reference. -/
import Derived.Test.YtdnjeahbnidefaaRoNeed
namespace Go.Proofs.Ytdnjeahbnidefaa
open Go.RowKit

set_option maxRecDepth 100000 in
set_option maxHeartbeats 2000000 in
theorem specRoadsNeeded_any (n : Int) (A : Option Addr) (rs : List (Int × Int × Int)) (m cap : Nat) (w : World) (hl : rs.length = m) (hm : m ≤ 1048576) (hr : Rd w A (fl3 rs)) (hc : m ≤ cap) :
    Calls Try.prog 11 #[.int .i64 n, .slice A m cap] w (RetS w 3 1 (needed n rs).length (fl1 (needed n rs))) := by
  have Hl := hideIt hl
  clear hl
  have b0 := (Below.refl w.heap.size w).alloc (Nat.le_refl _) (.cells #[] 3)
  have ho0 := own_empty w 3 1
  cases hv : roadsValid n rs
  · have Hv := hideIt hv
    rw [needed_v hv]
    clear hv
    go_enter Try.func11, Try.ntmps11
    go_wp2
    go_loopw [5, 6] (fun o i wr => i = .int .i64 0 ∧ o = .slice (some ⟨w.heap.size, 0, none⟩) 0 0 ∧ wr.ownsRow w.heap.size 3 1 (.slice (some ⟨w.heap.size, 0, none⟩) 0 0) 0 [] ∧ Below w.heap.size w wr) (fun _ _ _ => 0)
    case atStart => exact ⟨rfl, rfl, ho0, b0⟩
    case round =>
      obtain ⟨rfl, rfl, hrow, hbw⟩ := hrel
      by_cases h0 : 0 < m
      · have h0i : (0 : Int) < (m : Int) := by omega
        go_wp2_with fail
        refine (specRoadsValid_any _ _ _ _ _ _ _ Hl.out hm (hr.below hbw (Nat.le_refl _)) Hv.out).mono ?_
        rintro e w1 ⟨rfl, hb1⟩
        have b1 := hbw.trans (hb1.mono hbw.size)
        have ho1 := own_below hrow hb1 (Nat.le_refl _)
        go_wp2
        go_ret
        exact ⟨_, _, rfl, ho1, b1⟩
      · obtain rfl : m = 0 := by omega
        go_wp2
        go_ret
        exact ⟨_, _, rfl, hrow, hbw⟩
  obtain ⟨nn, rfl, hrv⟩ := roadsValid_t hv
  have Hv := hideIt hv
  have Hrv : Hid (RV nn rs) := hideIt hrv
  have n8 := hrv.n8
  have l16 := hrv.l16
  rw [Hl.out] at l16
  rw [needed_t hv, Hl.out]
  obtain ⟨i0, hi, hz0, hz1, hz2⟩ := info_parts info_intF
  obtain ⟨j0, hj, hy0, hy1, hy2⟩ := info_parts info_Road
  clear hv hrv
  go_enter Try.func11, Try.ntmps11
  go_wp2
  go_loopw [5, 6] (fun o i wr => ∃ (k L : Nat) (B : Option Addr) (c : Nat), k ≤ m ∧ L ≤ k ∧ i = .int .i64 k ∧ o = .slice B L c ∧ Hid ((neededTo nn rs k).length = L) ∧ wr.ownsRow w.heap.size 3 1 (.slice B L c) L (fl1 (neededTo nn rs k)) ∧ Below w.heap.size w wr) (fun _ i _ => m - (intOf i).toNat)
  case atStart => exact ⟨0, 0, _, 0, by omega, by omega, rfl, rfl, hideIt rfl, ho0, b0⟩
  case round =>
    obtain ⟨k, L, B, c, hk, hlo, rfl, rfl, HL, hrow, hbw⟩ := hrel
    clear ho0 b0
    by_cases hlt : k < m
    · have hkl : k < rs.length := by rw [Hl.out]; exact hlt
      obtain ⟨b, off, rfl⟩ := hr.at0 (by omega)
      have Hone := hideIt (Hrv.out.needed_one hkl)
      obtain ⟨g1, g2, g3, g4, g5⟩ := Hrv.out.road k hkl
      have Hlo := hideIt (show (lessR rs k).length = m - 1 by rw [without_len k hkl, Hl.out])
      obtain ⟨x, hxe⟩ : ∃ q, a3 rs k = q := ⟨_, rfl⟩
      obtain ⟨y, hye⟩ : ∃ q, b3 rs k = q := ⟨_, rfl⟩
      rw [hxe] at g1 g2 Hone
      rw [hye] at g2 g3 Hone
      have Hxe := hideIt hxe
      have Hye := hideIt hye
      have Hkl := hideIt hkl
      have okx : IntOk x := by unfold IntOk; omega
      have oky : IntOk y := by unfold IntOk; omega
      obtain ⟨F, hF⟩ : ∃ F, roadsFar nn (lessR rs k) x y = F := ⟨_, rfl⟩
      rw [hF] at Hone
      have HF := hideIt hF
      have hkm : (k : Int) < (m : Int) := by omega
      clear hkl hF g4 g5 hxe hye
      go_wp2_with fail
      refine (specRoadsValid_any _ _ _ _ _ _ _ Hl.out hm (hr.below hbw (Nat.le_refl _)) Hv.out).mono ?_
      rintro e w1 ⟨rfl, hb1⟩
      have bw1 := hbw.trans (hb1.mono hbw.size)
      have ho1 := own_below hrow hb1 (Nat.le_refl _)
      have hr1 := hr.below bw1 (Nat.le_refl _)
      have ht1 := hr1.take3 k
      have hsz := bw1.size
      clear hbw hrow hb1
      have Hlt := hideIt (show (rs.take k).length = k by rw [List.length_take, Hl.out]; omega)
      have Hld := hideIt (show (rs.drop (k + 1)).length = m - (k + 1) by rw [List.length_drop, Hl.out])
      have hwr : IntKind.i64.wrap ((k : Int) + 1) = (k : Int) + 1 := IntWalk.i64_in _ (by omega)
      have q1 : (k : Int) ≤ (cap : Int) := by omega
      have q2 : (0 : Int) ≤ (k : Int) + 1 := by omega
      have q3 : (k : Int) + 1 ≤ (m : Int) := by omega
      have q4 : ((k : Int) + 1).toNat = k + 1 := by omega
      have q5 : ¬ cap = 0 := by omega
      by_cases hck : cap = k + 1
      · obtain rfl : m = k + 1 := by omega
        subst hck
        have g6 : (k : Int) ≤ (k : Int) + 1 := by omega
        have Hnil := hideIt (show lessR rs k = rs.take k ++ [] by rw [lessR, List.drop_eq_nil_of_le (by rw [Hl.out]; omega)])
        have hw := hideIt (show k + 1 - 1 = k by omega)
        have hkm2 : (k : Int) < (k : Int) + 1 := by omega
        go_wp2_with fail
        go_region_held3 (fun w' => Below w1.heap.size w1 w')
          (first | assumption | exact (Below.refl _ _).drew | exact B2 | exact B3 | (refine Below.alloc (by assumption) (Below.size (by assumption)) _))
          (first
            | (refine step_append_all rfl (.tmp 20) (.tmp 23) 23 (by rfl) w1.heap.size 32 j0 _ 3 24 Try.underlying23 hj hy0 hy1 hy2 rfl (by omega) _ 0 [] (by rfl) (own_emptyH w1.drew 32 3 _ rfl) ⟨b, off, none⟩ k (k + 1) (fl3 (rs.take k)) (by rfl) (by rw [fl3_len, Hlt.out]) (Rd.news (ht1.below (by assumption) (Nat.le_refl _))) (fl3_one _) (by unfold maxLen; omega) (by omega) (by simp) k (Nat.zero_add k) ?_
               intro A2 c2 w2 ho2 hg2
               rw [List.nil_append] at ho2
               have B2 := below_own (by assumption) (own_emptyH w1.drew 32 3 _ rfl) hg2 (Nat.le_refl _) (by simp))
            | (refine step_append_all rfl (.tmp 24) (.tmp 28) 23 (by rfl) w1.heap.size 32 j0 _ 3 24 Try.underlying23 hj hy0 hy1 hy2 rfl (by omega) _ k (fl3 (rs.take k)) (by rfl) (ho2) ⟨b, off, none⟩ 0 0 [] (by rfl) rfl (fun j u hu => by simp at hu) (by simp) (by unfold maxLen; omega) (by omega) (B2.size) k (Nat.add_zero k) ?_
               intro A3 c3 w3 ho3 hg3
               have B3 := below_own B2 ho2 hg3 (Nat.le_refl _) B2.size))
        all_goals
          have hoL : w3.ownsRow w1.heap.size 32 3 (.slice A3 (k + 1 - 1) c3) (k + 1 - 1) (fl3 (lessR rs k)) := by rw [Hnil.out, List.append_nil, hw.out]; rw [List.append_nil] at ho3; exact ho3
          rw [hw.out] at hoL
          clear ho2 hg2 hg3 ho3 B2 hwr q1 q2 q3 q4 q5 g6 ht1
          have hbN := bw1.trans (B3.mono hsz)
          have hoN := own_below ho1 B3 (Nat.le_refl _)
          have hrN := hr1.below B3 (Nat.le_refl _)
          have hszN := hbN.size
          obtain ⟨bb, oo, hbe, hblk, hcc⟩ := hrN.at3 Hkl.out
          cases hbe
          obtain ⟨hx, hy, _⟩ := hcc k Hkl.out
          rw [Hxe.out] at hx
          rw [Hye.out] at hy
          clear hcc B3 bw1 ho1 hr1 hrN hsz
          go_wp2
          go_region_held3 (fun w' => w'.cell? ⟨b, off + k * 3, none⟩ = some (.int .i64 x) ∧ w'.cell? ⟨b, off + k * 3 + 1, none⟩ = some (.int .i64 y) ∧ Below w3.heap.size w3 w')
            (first
              | exact ⟨hx, hy, (Below.refl _ _).drew⟩
              | exact ⟨(B4.cell (p := ⟨b, off + k * 3, none⟩) hblk).trans hx, (B4.cell (p := ⟨b, off + k * 3 + 1, none⟩) hblk).trans hy, B4⟩)
            (first
              | (go_split_ands
                 go_at_call 38
                 refine (specRoadsFar_any _ _ _ _ _ _ _ _ Hlo.out (by omega) (Rd.of_own (own_below hoL (by assumption) (Nat.le_refl _))) okx oky).mono ?_
                 rw [HF.out]
                 rintro e w4 ⟨rfl, hb4⟩
                 have B4 := below_from (by assumption) hb4))
          all_goals
            have hbP := hbN.trans (B4.mono hszN)
            have hoP := own_below hoN B4 (Nat.le_refl _)
            have hszP := hbP.size
            clear hbN hoN hoL hb4 hx hy
            by_cases hF0 : F < 0
            · have Hn := hideIt (neededTo_t (by rw [Hone.out]; exact decide_eq_true hF0))
              have Hn2 := hideIt (show (neededTo nn rs (k + 1)).length = L + 1 by rw [Hn.out, List.length_append, HL.out]; rfl)
              have Hfl := hideIt (show fl1 (neededTo nn rs (k + 1)) = fl1 (neededTo nn rs k) ++ [.int .i64 k] by rw [Hn.out, fl1_snoc])
              go_wp2_with (at_builtin; refine wpList_append_own _ rfl (.tmp 44) (.tmp 46) 26 rfl w.heap.size 3 i0 _ 1 8 Try.underlying26 hi hz0 hz1 hz2 rfl (by decide) _ _ _ rfl (hoP.alloc _) ⟨_, 0, none⟩ 1 1 [.int .i64 ((k : Int))] rfl rfl (cell_one_new _ _ _) (by simp [Value.oneCell']) (by unfold maxLen; omega) (by omega) ((by simp; omega)) ?_; intro v' wn hown' hgrow hnn; clear hnn)
              have bN := (hbP.alloc hszP (.cells #[.int .i64 (k : Int)] 3)).grown hgrow (Nat.le_trans hszP (by simp)) (fun g hg => (hoP.lt g hg).1)
              obtain ⟨A', c', rfl⟩ := own_form hown'
              clear hgrow hoP hbP
              go_wp2
              go_roundw
              case rel => exact ⟨k + 1, L + 1, A', c', by omega, by omega, by go_num, rfl, Hn2, by rw [Hfl.out]; exact hown', bN⟩
              case measure => simp [intOf]
            · have Hn := hideIt (neededTo_f (by rw [Hone.out]; exact decide_eq_false hF0))
              go_wp2
              go_roundw
              case rel => exact ⟨k + 1, L, B, c, by omega, by omega, by go_num, rfl, hideIt (by rw [Hn.out, HL.out]), by rw [Hn.out]; exact hoP, hbP⟩
              case measure => simp [intOf]
      · have hd1 := hr1.drop3 (k + 1) (by rw [Hl.out]; omega)
        have E1 := hideIt (show lessR rs k = rs.take k ++ rs.drop (k + 1) from rfl)
        have Hsum := hideIt (show k + (m - (k + 1)) = m - 1 by omega)
        go_wp2_with fail
        go_region_held3 (fun w' => Below w1.heap.size w1 w')
          (first | assumption | exact (Below.refl _ _).drew | exact B2 | exact B3 | (refine Below.alloc (by assumption) (Below.size (by assumption)) _))
          (first
            | (refine step_append_all rfl (.tmp 20) (.tmp 23) 23 (by rfl) w1.heap.size 32 j0 _ 3 24 Try.underlying23 hj hy0 hy1 hy2 rfl (by omega) _ 0 [] (by rfl) (own_emptyH w1.drew 32 3 _ rfl) ⟨b, off, none⟩ k cap (fl3 (rs.take k)) (by rfl) (by rw [fl3_len, Hlt.out]) (Rd.news (ht1.below (by assumption) (Nat.le_refl _))) (fl3_one _) (by unfold maxLen; omega) (by omega) (by simp) k (Nat.zero_add k) ?_
               intro A2 c2 w2 ho2 hg2
               rw [List.nil_append] at ho2
               have B2 := below_own (by assumption) (own_emptyH w1.drew 32 3 _ rfl) hg2 (Nat.le_refl _) (by simp))
            | (refine step_append_all rfl (.tmp 24) (.tmp 28) 23 (by rfl) w1.heap.size 32 j0 _ 3 24 Try.underlying23 hj hy0 hy1 hy2 rfl (by omega) _ k (fl3 (rs.take k)) (by rfl) (ho2) ⟨b, off + (k + 1) * 3, none⟩ (m - (k + 1)) (cap - (k + 1)) (fl3 (rs.drop (k + 1))) (by rfl) (by rw [fl3_len, Hld.out]) (Rd.news (hd1.below B2 (Nat.le_refl _))) (fl3_one _) (by unfold maxLen; omega) (by omega) (B2.size) (m - 1) (Hsum.out) ?_
               intro A3 c3 w3 ho3 hg3
               have B3 := below_own B2 ho2 hg3 (Nat.le_refl _) B2.size))
        all_goals
          have hoL : w3.ownsRow w1.heap.size 32 3 (.slice A3 (m - 1) c3) (m - 1) (fl3 (lessR rs k)) := by rw [E1.out, fl3, List.flatMap_append]; exact ho3
          clear ho2 hg2 hg3 ho3 B2 hwr q1 q2 q3 q4 q5 ht1 hd1
          have hbN := bw1.trans (B3.mono hsz)
          have hoN := own_below ho1 B3 (Nat.le_refl _)
          have hrN := hr1.below B3 (Nat.le_refl _)
          have hszN := hbN.size
          obtain ⟨bb, oo, hbe, hblk, hcc⟩ := hrN.at3 Hkl.out
          cases hbe
          obtain ⟨hx, hy, _⟩ := hcc k Hkl.out
          rw [Hxe.out] at hx
          rw [Hye.out] at hy
          clear hcc B3 bw1 ho1 hr1 hrN hsz
          go_wp2
          go_region_held3 (fun w' => w'.cell? ⟨b, off + k * 3, none⟩ = some (.int .i64 x) ∧ w'.cell? ⟨b, off + k * 3 + 1, none⟩ = some (.int .i64 y) ∧ Below w3.heap.size w3 w')
            (first
              | exact ⟨hx, hy, (Below.refl _ _).drew⟩
              | exact ⟨(B4.cell (p := ⟨b, off + k * 3, none⟩) hblk).trans hx, (B4.cell (p := ⟨b, off + k * 3 + 1, none⟩) hblk).trans hy, B4⟩)
            (first
              | (go_split_ands
                 go_at_call 38
                 refine (specRoadsFar_any _ _ _ _ _ _ _ _ Hlo.out (by omega) (Rd.of_own (own_below hoL (by assumption) (Nat.le_refl _))) okx oky).mono ?_
                 rw [HF.out]
                 rintro e w4 ⟨rfl, hb4⟩
                 have B4 := below_from (by assumption) hb4))
          all_goals
            have hbP := hbN.trans (B4.mono hszN)
            have hoP := own_below hoN B4 (Nat.le_refl _)
            have hszP := hbP.size
            clear hbN hoN hoL hb4 hx hy
            by_cases hF0 : F < 0
            · have Hn := hideIt (neededTo_t (by rw [Hone.out]; exact decide_eq_true hF0))
              have Hn2 := hideIt (show (neededTo nn rs (k + 1)).length = L + 1 by rw [Hn.out, List.length_append, HL.out]; rfl)
              have Hfl := hideIt (show fl1 (neededTo nn rs (k + 1)) = fl1 (neededTo nn rs k) ++ [.int .i64 k] by rw [Hn.out, fl1_snoc])
              go_wp2_with (at_builtin; refine wpList_append_own _ rfl (.tmp 44) (.tmp 46) 26 rfl w.heap.size 3 i0 _ 1 8 Try.underlying26 hi hz0 hz1 hz2 rfl (by decide) _ _ _ rfl (hoP.alloc _) ⟨_, 0, none⟩ 1 1 [.int .i64 ((k : Int))] rfl rfl (cell_one_new _ _ _) (by simp [Value.oneCell']) (by unfold maxLen; omega) (by omega) ((by simp; omega)) ?_; intro v' wn hown' hgrow hnn; clear hnn)
              have bN := (hbP.alloc hszP (.cells #[.int .i64 (k : Int)] 3)).grown hgrow (Nat.le_trans hszP (by simp)) (fun g hg => (hoP.lt g hg).1)
              obtain ⟨A', c', rfl⟩ := own_form hown'
              clear hgrow hoP hbP
              go_wp2
              go_roundw
              case rel => exact ⟨k + 1, L + 1, A', c', by omega, by omega, by go_num, rfl, Hn2, by rw [Hfl.out]; exact hown', bN⟩
              case measure => simp [intOf]; omega
            · have Hn := hideIt (neededTo_f (by rw [Hone.out]; exact decide_eq_false hF0))
              go_wp2
              go_roundw
              case rel => exact ⟨k + 1, L, B, c, by omega, by omega, by go_num, rfl, hideIt (by rw [Hn.out, HL.out]), by rw [Hn.out]; exact hoP, hbP⟩
              case measure => simp [intOf]; omega
    · obtain rfl : k = m := by omega
      go_wp2
      go_ret
      rw [HL.out]
      exact ⟨_, _, rfl, hrow, hbw⟩
theorem needed_le (n : Int) (rs : List (Int × Int × Int)) : (needed n rs).length ≤ 1048576 := by
  unfold needed
  split
  · rename_i h
    obtain ⟨m, rfl, hv⟩ := roadsValid_t h
    have := neededTo_len (n := (m : Int).toNat) (rs := rs) rs.length
    have := hv.l16
    omega
  · simp
end Go.Proofs.Ytdnjeahbnidefaa

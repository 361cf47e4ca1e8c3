/- Walks: RoadsNeeded of the program. -/
import Derived.Test.YtdnjeahbnidefaaRoWhole
import Derived.Test.YtdnjeahbnidefaaRo7
namespace Go.Proofs.Ytdnjeahbnidefaa
open Go.RowKit

theorem needed_v {n : Int} {rs : List (Int × Int × Int)} (h : roadsValid n rs = false) : needed n rs = [] := by rw [needed, h]; rfl
theorem needed_t {n : Nat} {rs : List (Int × Int × Int)} (h : roadsValid n rs = true) : needed n rs = neededTo n rs rs.length := by rw [needed, h]; rfl
/-- a road's turn -/
theorem RV.needed_one {n : Nat} {rs : List (Int × Int × Int)} (h : RV n rs) {k : Nat} (hk : k < rs.length) : isNeeded n rs k = decide (roadsFar n (lessR rs k) (a3 rs k) (b3 rs k) < 0) := by
  obtain ⟨g1, g2, g3, g4, g5⟩ := h.road k hk
  have hv := roadsValid_of (h.without hk)
  obtain ⟨x, hx⟩ := Int.eq_ofNat_of_zero_le g1
  obtain ⟨y, hy⟩ := Int.eq_ofNat_of_zero_le (show 0 ≤ b3 rs k by omega)
  unfold isNeeded
  rw [hx, hy, roadsFar_in hv (by omega) (by omega), Int.toNat_natCast, Int.toNat_natCast]
theorem neededTo_t {n : Nat} {rs : List (Int × Int × Int)} {k : Nat} (h : isNeeded n rs k = true) : neededTo n rs (k + 1) = neededTo n rs k ++ [(k : Int)] := by rw [neededTo, if_pos h]
theorem neededTo_f {n : Nat} {rs : List (Int × Int × Int)} {k : Nat} (h : isNeeded n rs k = false) : neededTo n rs (k + 1) = neededTo n rs k := by rw [neededTo, if_neg (by rw [h]; simp)]

set_option maxRecDepth 100000 in
set_option maxHeartbeats 2000000 in
theorem implRoadsNeeded_any (n : Int) (A : Option Addr) (rs : List (Int × Int × Int)) (m cap : Nat) (w : World) (hl : rs.length = m) (hm : m ≤ 1048576) (hr : Rd w A (fl3 rs)) (hc : m ≤ cap) :
    Calls Try.prog 10 #[.int .i64 n, .slice A m cap] w (RetS w 3 1 (needed n rs).length (fl1 (needed n rs))) := by
  have Hl := hideIt hl
  clear hl
  have b0 := (Below.refl w.heap.size w).alloc (Nat.le_refl _) (.cells #[] 3)
  have ho0 := own_empty w 3 1
  cases hv : roadsValid n rs
  · have Hv := hideIt hv
    rw [needed_v hv]
    clear hv
    go_enter Try.func10, Try.ntmps10
    go_wp2_with fail
    refine (implRoadsValid_any _ _ _ _ _ _ _ Hl.out hm (hr.alloc _) Hv.out).mono ?_
    rintro e w1 ⟨rfl, hb1⟩
    have b1 := b0.trans (hb1.mono b0.size)
    have ho1 := own_below ho0 hb1 (Nat.le_refl _)
    go_wp2
    go_ret
    exact ⟨_, _, rfl, ho1, b1⟩
  obtain ⟨nn, rfl, hrv⟩ := roadsValid_t hv
  have Hv := hideIt hv
  have Hrv : Hid (RV nn rs) := hideIt hrv
  have n8 := hrv.n8
  have l16 := hrv.l16
  rw [Hl.out] at l16
  rw [needed_t hv, Hl.out]
  obtain ⟨i0, hi, hz0, hz1, hz2⟩ := info_parts info_intF
  clear hv hrv
  go_enter Try.func10, Try.ntmps10
  go_wp2_with fail
  refine (implRoadsValid_any _ _ _ _ _ _ _ Hl.out hm (hr.alloc _) Hv.out).mono ?_
  rintro e w1 ⟨rfl, hb1⟩
  have b1 := b0.trans (hb1.mono b0.size)
  have ho1 := own_below ho0 hb1 (Nat.le_refl _)
  clear hb1 ho0 b0
  go_wp2
  go_loopw [5, 16] (fun o i wr => ∃ (k L : Nat) (B : Option Addr) (c : Nat), k ≤ m ∧ L ≤ k ∧ i = .int .i64 k ∧ o = .slice B L c ∧ Hid ((neededTo nn rs k).length = L) ∧ wr.ownsRow w.heap.size 3 1 (.slice B L c) L (fl1 (neededTo nn rs k)) ∧ Below w.heap.size w wr) (fun _ i _ => m - (intOf i).toNat)
  case atStart => exact ⟨0, 0, _, 0, by omega, by omega, rfl, rfl, hideIt rfl, ho1, b1⟩
  case round =>
    obtain ⟨k, L, B, c, hk, hlo, rfl, rfl, HL, hrow, hbw⟩ := hrel
    have hsz := hbw.size
    clear ho1 b1
    by_cases hlt : k < m
    · have hkl : k < rs.length := by rw [Hl.out]; exact hlt
      obtain ⟨b, off, rfl⟩ := hr.at0 (by omega)
      obtain ⟨bb, oo, hbe, hblk, hcc⟩ := hr.at3 hkl
      cases hbe
      obtain ⟨hx, hy, hz⟩ := hcc k hkl
      rw [← hbw.cell (p := ⟨b, off + k * 3, none⟩) hblk] at hx
      rw [← hbw.cell (p := ⟨b, off + k * 3 + 1, none⟩) hblk] at hy
      rw [← hbw.cell (p := ⟨b, off + k * 3 + 2, none⟩) hblk] at hz
      have Hone := hideIt (Hrv.out.needed_one hkl)
      obtain ⟨g1, g2, g3, g4, g5⟩ := Hrv.out.road k hkl
      have Hlo := hideIt (show (lessR rs k).length = m - 1 by rw [without_len k hkl, Hl.out])
      obtain ⟨x, hxe⟩ : ∃ q, a3 rs k = q := ⟨_, rfl⟩
      obtain ⟨y, hye⟩ : ∃ q, b3 rs k = q := ⟨_, rfl⟩
      obtain ⟨z, hze⟩ : ∃ q, c3 rs k = q := ⟨_, rfl⟩
      rw [hxe] at hx g1 g2 Hone
      rw [hye] at hy g2 g3 Hone
      rw [hze] at hz
      have okx : IntOk x := by unfold IntOk; omega
      have oky : IntOk y := by unfold IntOk; omega
      obtain ⟨F, hF⟩ : ∃ F, roadsFar nn (lessR rs k) x y = F := ⟨_, rfl⟩
      rw [hF] at Hone
      have HF := hideIt hF
      have HC := hideIt (book_cells wr (.int .i64 x) (.int .i64 y) (.int .i64 z) 32)
      have hbW := hbw.alloc hsz (.cells #[.int .i64 x, .int .i64 y, .int .i64 z] 32)
      have hrW := hr.below hbW (Nat.le_refl _)
      have hoW := hrow.alloc (.cells #[.int .i64 x, .int .i64 y, .int .i64 z] 32)
      have hkm : (k : Int) < (m : Int) := by omega
      clear hcc hkl hxe hye hze hF hbw hrow g4 g5
      go_wp2
      go_region_held3 (fun w' => w'.cell? ⟨wr.heap.size, 0, none⟩ = some (.int .i64 x) ∧ w'.cell? ⟨wr.heap.size, 1, none⟩ = some (.int .i64 y) ∧ w'.cell? ⟨wr.heap.size, 2, none⟩ = some (.int .i64 z) ∧ Below (wr.alloc (.cells #[.int .i64 x, .int .i64 y, .int .i64 z] 32)).heap.size (wr.alloc (.cells #[.int .i64 x, .int .i64 y, .int .i64 z] 32)) w')
        (first
          | exact HC.out _ (Below.refl _ _).drew
          | exact HC.out _ B2
          | exact HC.out _ B3)
        (first
          | (go_split_ands
             go_at_call 36
             refine (withoutRoad_any _ _ _ _ _ _ _ Hl.out hm (hrW.below (by assumption) (Nat.le_refl _)) hc hlt).mono ?_
             rintro e w2 ⟨A2, c2, rfl, ho2, hb2⟩
             have B2 := below_from (by assumption) hb2)
          | (go_split_ands
             go_at_call 15
             refine (implRoadsFar_any _ _ _ _ _ _ _ _ Hlo.out (by omega) (Rd.of_own ho2) okx oky).mono ?_
             rw [HF.out]
             rintro e w3 ⟨rfl, hb3⟩
             have B3 := below_from B2 hb3))
      all_goals
        have hbN := hbW.trans (B3.mono hbW.size)
        have hoN := own_below hoW B3 (Nat.le_refl _)
        have hszN := hbN.size
        clear hbW hoW hrW ho2 hb2 hb3
      by_cases hF0 : F < 0
      · have Hn := hideIt (neededTo_t (by rw [Hone.out]; exact decide_eq_true hF0))
        have Hn2 := hideIt (show (neededTo nn rs (k + 1)).length = L + 1 by rw [Hn.out, List.length_append, HL.out]; rfl)
        have Hfl := hideIt (show fl1 (neededTo nn rs (k + 1)) = fl1 (neededTo nn rs k) ++ [.int .i64 k] by rw [Hn.out, fl1_snoc])
        go_wp2_with (at_builtin; refine wpList_append_own _ rfl (.tmp 31) (.tmp 33) 26 rfl w.heap.size 3 i0 _ 1 8 Try.underlying26 hi hz0 hz1 hz2 rfl (by decide) _ _ _ rfl (hoN.alloc _) ⟨_, 0, none⟩ 1 1 [.int .i64 ((k : Int))] rfl rfl (cell_one_new _ _ _) (by simp [Value.oneCell']) (by unfold maxLen; omega) (by omega) ((by simp; omega)) ?_; intro v' wn hown' hgrow hnn; clear hnn)
        have bN := (hbN.alloc hszN (.cells #[.int .i64 (k : Int)] 3)).grown hgrow (Nat.le_trans hszN (by simp)) (fun g hg => (hoN.lt g hg).1)
        obtain ⟨A', c', rfl⟩ := own_form hown'
        clear hgrow hoN hbN
        go_wp2
        go_roundw
        case rel => exact ⟨k + 1, L + 1, A', c', by omega, by omega, by go_num, rfl, Hn2, by rw [Hfl.out]; exact hown', bN⟩
        case measure => simp [intOf]; omega
      · have Hn := hideIt (neededTo_f (by rw [Hone.out]; exact decide_eq_false hF0))
        go_wp2
        go_roundw
        case rel => exact ⟨k + 1, L, B, c, by omega, by omega, by go_num, rfl, hideIt (by rw [Hn.out, HL.out]), by rw [Hn.out]; exact hoN, hbN⟩
        case measure => simp [intOf]; omega
    · obtain rfl : k = m := by omega
      go_wp2
      go_ret
      rw [HL.out]
      exact ⟨_, _, rfl, hrow, hbw⟩
end Go.Proofs.Ytdnjeahbnidefaa

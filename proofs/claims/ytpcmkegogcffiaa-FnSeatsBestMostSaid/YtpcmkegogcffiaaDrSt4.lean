/- Walks: the drawing of FnSeatsBest. -/
import Derived.Test.YtpcmkegogcffiaaDrSt2
namespace Go.Proofs.Ytpcmkegogcffiaa
open Go.RowKit

set_option maxRecDepth 100000 in
set_option maxHeartbeats 2000000 in
theorem DrawSeatsBest_any (A : Option Addr) (xs : List Int) (n c : Nat) (w : World) (hl : xs.length = n) (hn : n ≤ 1048576) (hc : n ≤ c) (hx : Bytes xs) (hr : Rd w A (flU xs)) :
    Calls Try.prog 34 #[.slice A n c] w (DrawnBL w) := by
  go_enter Try.func34, Try.ntmps34
  go_wp2_with fail
  refine (l6Open_any _ xs _ _ _ hl hn hc hx hr).mono ?_
  rintro e w1 ⟨g, rfl, hg, hr1, hb1⟩
  go_wp2_with fail
  refine (l92Bookings_any g 0 _ (by omega) hr1).mono ?_
  rintro e w2 ⟨nn, ls, b, m, c2, rfl, n1, n6, hl2, hm2, ho2, hg2, hr2⟩
  have b2 := below_pick hb1 hg2 hg hb1.size
  go_wp2_with fail
  refine (pick_any g _ 6 _ (by omega) (by omega) (by omega) hr2).mono ?_
  rintro e w3 ⟨v3, rfl, h30, h31, hg3, hr3⟩
  have ho3 := own_pick ho2 hr1.lt hg3
  have b3 := below_pick b2 hg3 hg b2.size
  have hz1 := hb1.size
  have hz3 := Nat.le_trans hg2.size hg3.size
  have hbl := ho3.lt b rfl
  have Hl := hideIt hl2
  clear hl2 hr hr1 hr2 hr3 hg2 hg3 ho2 b2
  by_cases c0 : v3 = 0
  · subst c0
    go_wp2
    go_ret2
    exact ⟨nn, ls, b, m, c2, rfl, n1, n6, Hl.out, hm2, own_base ho3 hz1, b3⟩
  have d0 : (v3 == 0) = false := by simp [c0]
  clear c0
  go_wp2
  go_loopw [7, 8] (fun o i wr => ∃ (k p q d : Nat) (rs : List (Int × Int × Bool)), k ≤ m ∧ i = .int .i64 k ∧ rs.length = p ∧ p ≤ 16 ∧ o = .slice (some ⟨q, 0, none⟩) p d ∧ wr.ownsRow w3.heap.size 40 3 (.slice (some ⟨q, 0, none⟩) p d) p (flB rs) ∧ Below w3.heap.size w3 wr) (fun _ i _ => m - (intOf i).toNat)
  case atStart => exact ⟨0, 0, w3.heap.size, 0, [], by omega, rfl, rfl, by omega, rfl, own_empty w3 40 3, (Below.refl _ _).alloc (Nat.le_refl _) _⟩
  case round =>
    obtain ⟨k, p, q, d, rs, hk, rfl, hrl, hp16, rfl, hown, hbw⟩ := hrel
    have Hrl := hideIt hrl
    clear hrl
    have ho4 := own_below ho3 hbw (Nat.le_refl _)
    by_cases hlt : k < m
    · have hkl : k < ls.length := by rw [Hl.out]; exact hlt
      obtain ⟨hcx, hcy, hcz⟩ := rowB_a ho4 hkl
      have hz4 := hbw.size
      go_wp2_with fail
      have hbA := hbw.alloc hz4 (.cells #[.int .i64 (aB ls k), .int .i64 (bB ls k), .bool true] 40)
      have hownA := hown.alloc (.cells #[.int .i64 (aB ls k), .int .i64 (bB ls k), .bool true] 40)
      refine (specSeatsBook_any nn _ rs p d _ _ _ _ Hrl.out (by omega) (Rd.of_own hownA)).mono ?_
      rintro e w6 ⟨A6, c6, rfl, ho6, hb6⟩
      have hown6 := own_below hownA hb6 (Nat.le_refl _)
      have hbw6 := hbA.trans (hb6.mono hbA.size)
      have hsz := hbA.size
      obtain ⟨bk, hbk⟩ : ∃ bk, ((aB ls k, bB ls k, true) : Int × Int × Bool) = bk := ⟨_, rfl⟩
      rw [hbk] at ho6 ⊢
      clear hbk hown hownA hbA hb6 hbw hcx hcy hcz ho4
      cases hok : bookOk nn rs bk
      · clear ho6 hok
        go_wp2
        go_roundw
        case rel => exact ⟨k + 1, p, q, d, rs, by omega, by go_num, Hrl.out, by omega, rfl, hown6, hbw6⟩
        case measure => simp [intOf]; omega
      · have hsb := seatsBook_t hok
        have hlen : (rs ++ [bk]).length = p + 1 := by rw [List.length_append, Hrl.out]; rfl
        have h16 := (bValid_parts (bookOk_t hok).2).2.2.1
        rw [hlen] at h16
        rw [hsb, hlen] at ho6
        obtain ⟨b6, rfl, hb60, hb61⟩ := own_some ho6 (by omega)
        have ho7 := own_base ho6 hsz
        have Hlen := hideIt hlen
        have Hq := hideIt (show (seatsBook nn rs bk).length = p + 1 by rw [hsb, hlen])
        rw [Hq.out]
        clear ho6 hok hsb hlen
        go_wp2
        go_roundw
        case rel => exact ⟨k + 1, p + 1, b6, c6, rs ++ [bk], by omega, by go_num, Hlen.out, by omega, rfl, ho7, hbw6⟩
        case measure => simp [intOf]; omega
    · go_wp2
      go_ret2
      exact ⟨nn, rs, q, p, d, rfl, n1, n6, Hrl.out, hp16, own_base hown (by omega), b3.trans (hbw.mono b3.size)⟩
end Go.Proofs.Ytpcmkegogcffiaa

/- The walk of FnRoadsClose. -/
import Derived.Test.YtpiknklaikcilaaDrRo2
import Derived.Test.YtpiknklaikcilaaRo7
import Derived.Test.YtpiknklaikcilaaRoCl2
import Derived.Test.YtpiknklaikcilaaRoSub
import Derived.Test.YtpiknklaikcilaaSameRoad
import Derived.Test.YtpiknklaikcilaaRo9n
namespace Go.Proofs.Ytpiknklaikcilaa.fnRoadsClose
open Go.RowKit

set_option maxRecDepth 100000 in
set_option maxHeartbeats 4000000 in
theorem walk (A : Option Addr) (xs : List Int) (n c : Nat) (w : World) (hl : xs.length = n) (hm : n ≤ maxLen) (hc : n ≤ c) (hx : Bytes xs) (hr : Rd w A (flU xs)) :
    Calls Try.prog 13 #[.slice A n c] w (Ret w (.bool true)) := by
  unfold maxLen at hm
  by_cases hn : n ≤ 1048576
  rotate_left
  · go_enter Try.func13, Try.ntmps13
    go_wp2_with fail
    go_ret
    exact ⟨rfl, Below.refl _ _⟩
  go_enter Try.func13, Try.ntmps13
  go_wp2_with fail
  refine (DrawRoadsClose_any _ xs _ _ _ hl hn hc hx hr).mono ?_
  clear hl hr hx
  rintro e w1 ⟨k, rs, b, m, d, x, y, rfl, hk2, hk6, hl1, hm1, hin, ⟨x0, x1⟩, ⟨y0, y1⟩, ho1, hb1⟩
  have Hl1 := hideIt hl1
  clear hl1 hin
  have hcap := own_cap ho1
  have okx : IntOk x := by unfold IntOk; omega
  have oky : IntOk y := by unfold IntOk; omega
  by_cases hneg : direct k rs x y < 0
  · have Hneg := hideIt hneg
    have Hdec := hideIt (decide_eq_false (show ¬ 0 ≤ direct k rs x y by omega))
    clear hneg
    go_wp2_with fail
    refine (implRoadsClose_any _ _ _ _ _ _ _ _ Hl1.out (by omega) (Rd.of_own ho1) hcap okx oky).mono ?_
    rw [roadsClose_f Hneg.out, Hdec.out]
    rintro e w2 ⟨A2, c2, rfl, ho2', hb2⟩
    have b2 := hb1.trans (hb2.mono hb1.size)
    have ho2 := own_below ho1 hb2 (Nat.le_refl _)
    clear ho1 hb2 hb1 ho2'
    go_wp2_with fail
    refine (specRoadsClose_any _ _ _ _ _ _ _ _ Hl1.out (by omega) (Rd.of_own ho2) hcap).mono ?_
    rw [roadsClose_f Hneg.out, Hdec.out]
    rintro e w3 ⟨A3, c3, rfl, ho3', hb3⟩
    have b3 := b2.trans (hb3.mono b2.size)
    clear hb3 b2 ho2 ho3'
    go_wp2_with fail
    refine (sameRoads_any _ _ [] [] _ _ _ _ _ rfl rfl (Nat.zero_le _) (Nat.zero_le _) (Rd.nil _ _) (Rd.nil _ _)).mono ?_
    rintro e w4 ⟨rfl, hb4⟩
    have b4 := b3.trans (hb4.mono b3.size)
    go_wp2_with fail
    refine (sameRoads_any _ _ [] [] _ _ _ _ _ rfl rfl (Nat.zero_le _) (Nat.zero_le _) (Rd.nil _ _) (Rd.nil _ _)).mono ?_
    rintro e w5 ⟨rfl, hb5⟩
    go_wp2
    go_ret
    exact ⟨rfl, b4.trans (hb5.mono b4.size)⟩
  have hd0 : 0 ≤ direct k rs x y := by omega
  obtain ⟨mm, j, hmm, hrv, hfind, hjl, hhit, hdx, hab, hex⟩ := direct_at hd0
  obtain rfl : k = mm := by omega
  have hvv := roadsValid_of hrv
  have hpos := hrv.edge_pos (show 0 ≤ edge rs x y by have := (hrv.road j hjl).2.2.2.1; omega)
  obtain ⟨s, rfl⟩ := Int.eq_ofNat_of_zero_le (show 0 ≤ x by omega)
  obtain ⟨t, rfl⟩ := Int.eq_ofNat_of_zero_le (show 0 ≤ y by omega)
  have hs : s < k := by omega
  have ht : t < k := by omega
  obtain ⟨L1, L2, L3, L4, L5⟩ := close_law hrv hs ht hjl hhit
  have g := hrv.without hjl
  have Hw := hideIt (roadsValid_of g)
  have Hc := hideIt (roadsClose_t hd0 hfind)
  have Hdec := hideIt (decide_eq_true hd0)
  have Hlo := hideIt (show (lessR rs j).length = m - 1 by rw [without_len j hjl, Hl1.out])
  have hm2 : 1 ≤ m := by rw [← Hl1.out]; omega
  have hms := IntWalk.i64_in ((m : Int) - 1) (by omega)
  have hmc : ((m - 1 : Nat) : Int) = (m : Int) - 1 := by omega
  have Hd := hideIt (show direct k rs s t = c3 rs j from hdx)
  obtain ⟨z, hz⟩ : ∃ z, c3 rs j = z := ⟨_, rfl⟩
  have Hf := hideIt (roadsFar_in hvv hs ht)
  have Hfo := hideIt (roadsFar_in Hw.out hs ht)
  obtain ⟨p, hp⟩ : ∃ p, dist k rs s t = p := ⟨_, rfl⟩
  obtain ⟨q, hq⟩ : ∃ q, dist k (lessR rs j) s t = q := ⟨_, rfl⟩
  rw [hz] at Hd L3 L4 L5
  obtain ⟨Y, hY⟩ : ∃ Y, lessR rs j ++ [(min (s : Int) t, max (s : Int) t, z)] = Y := ⟨_, rfl⟩
  rw [hY] at L3 L4 L5
  have Hfx := hideIt (roadsFar_in L3 hs ht)
  rw [hp] at L2 L5 Hf
  rw [hq] at L2 Hfo
  rw [L5] at Hfx
  have HL1 := hideIt L1
  have HL3 := hideIt L3
  have HL4 := hideIt (show Y.length = m by rw [L4, Hl1.out])
  have HY := hideIt hY
  have hq1 : -1 ≤ q := by rcases g.dist_at hs ht with ⟨h1, _⟩ | ⟨h1, _⟩ <;> omega
  clear L1 L3 L4 L5 hY hp hq hz hdx hex hfind hhit hd0 hneg hmm hrv hvv g hpos hjl
  go_wp2_with fail
  refine (implRoadsClose_any _ _ _ _ _ _ _ _ Hl1.out (by omega) (Rd.of_own ho1) hcap okx oky).mono ?_
  rw [Hc.out, Hdec.out, Hlo.out]
  rintro e w2 ⟨A2, c2, rfl, hx2, hb2⟩
  have b2 := hb1.trans (hb2.mono hb1.size)
  have ho2 := own_below ho1 hb2 (Nat.le_refl _)
  clear ho1 hb2 hb1
  go_wp2_with fail
  refine (specRoadsClose_any _ _ _ _ _ _ _ _ Hl1.out (by omega) (Rd.of_own ho2) hcap).mono ?_
  rw [Hc.out, Hdec.out, Hlo.out]
  rintro e w3 ⟨A3, c3, rfl, hx3', hb3⟩
  have b3 := b2.trans (hb3.mono b2.size)
  have ho3 := own_below ho2 hb3 (Nat.le_refl _)
  have hx3 := own_below hx2 hb3 (Nat.le_refl _)
  clear ho2 hx2 hb3 b2
  go_wp2_with fail
  refine (sameRoads_any _ _ _ _ _ _ _ _ _ Hlo.out Hlo.out (by omega) (by omega) (Rd.of_own hx3) (Rd.of_own hx3')).mono ?_
  rw [decide_eq_true rfl]
  rintro e w4 ⟨rfl, hb4⟩
  have b4 := b3.trans (hb4.mono b3.size)
  have ho4 := own_below ho3 hb4 (Nat.le_refl _)
  have hx4 := own_below hx3 hb4 (Nat.le_refl _)
  clear ho3 hx3 hx3' hb4 b3
  go_wp2_with fail
  refine (implRoadsDirect_any _ _ _ _ _ _ _ _ Hl1.out (by omega) (Rd.of_own ho4) okx oky).mono ?_
  rw [Hd.out]
  rintro e w5 ⟨rfl, hb5⟩
  have b5 := b4.trans (hb5.mono b4.size)
  have ho5 := own_below ho4 hb5 (Nat.le_refl _)
  have hx5 := own_below hx4 hb5 (Nat.le_refl _)
  clear ho4 hx4 hb5 b4
  go_wp2_with fail
  refine (implRoadsFar_any _ _ _ _ _ _ _ _ Hl1.out (by omega) (Rd.of_own ho5) okx oky).mono ?_
  rw [Hf.out]
  rintro e w6 ⟨rfl, hb6⟩
  have b6 := b5.trans (hb6.mono b5.size)
  have hx6 := own_below hx5 hb6 (Nat.le_refl _)
  clear ho5 hx5 hb6 b5
  go_wp2_with fail
  refine (implRoadsFar_any _ _ _ _ _ _ _ _ Hlo.out (by omega) (Rd.of_own hx6) okx oky).mono ?_
  rw [Hfo.out]
  rintro e w7 ⟨rfl, hb7⟩
  have b7 := b6.trans (hb7.mono b6.size)
  have hx7 := own_below hx6 hb7 (Nat.le_refl _)
  clear hx6 hb7 b6
  rcases hab with hlt | hlt
  all_goals
    first
      | have hmx : (min (s : Int) t = s ∧ max (s : Int) t = t) := by omega
      | have hmx : (min (s : Int) t = t ∧ max (s : Int) t = s) := by omega
    have hY := HY.out
    have hYv := HL3.out
    rw [hmx.1, hmx.2] at hY
    rw [← hY] at hYv
    have HY2 := hideIt hY
    have HYv := hideIt hYv
    clear hY hYv hmx
    have Hmm := hideIt (show m - 1 + 1 = m by omega)
    have hlti : (s : Int) < (t : Int) ∨ (t : Int) < (s : Int) := by omega
    go_wp2_with fail
    refine (implRoadsAdd_own _ _ _ _ _ _ _ _ _ _ Hlo.out (by omega) hx7 HYv.out).mono ?_
    rw [HY2.out, Hmm.out]
    rintro e w8 ⟨A8, c8, rfl, hy8, hb8⟩
    have b8 := b7.trans (hb8.mono b7.size)
    have hx8 := own_below hx7 hb8 (Nat.le_refl _)
    clear hx7 hb8 b7
    go_wp2_with fail
    refine (implRoadsDirect_any _ _ _ _ _ _ _ _ Hlo.out (by omega) (Rd.of_own hx8) okx oky).mono ?_
    rw [HL1.out]
    rintro e w9 ⟨rfl, hb9⟩
    have b9 := b8.trans (hb9.mono b8.size)
    have hy9 := own_below hy8 hb9 (Nat.le_refl _)
    clear hx8 hy8 hb9 b8
    by_cases hq0 : q = -1
    · subst hq0
      clear L2
      go_wp2_with fail
      refine (implRoadsFar_any _ _ _ _ _ _ _ _ HL4.out (by omega) (Rd.of_own hy9) okx oky).mono ?_
      rw [Hfx.out]
      rintro e w10 ⟨rfl, hb10⟩
      have b10 := b9.trans (hb10.mono b9.size)
      go_wp2
      go_ret
      exact ⟨rfl, b10⟩
    · have hq2 : p ≤ q := by rcases L2 with h | h <;> omega
      have hqf : (q == -1) = false := by simpa using hq0
      clear L2 hq0
      go_wp2_with fail
      refine (implRoadsFar_any _ _ _ _ _ _ _ _ HL4.out (by omega) (Rd.of_own hy9) okx oky).mono ?_
      rw [Hfx.out]
      rintro e w10 ⟨rfl, hb10⟩
      have b10 := b9.trans (hb10.mono b9.size)
      go_wp2
      go_ret
      exact ⟨rfl, b10⟩
end Go.Proofs.Ytpiknklaikcilaa.fnRoadsClose

/- The walk of FnDirect. -/
import Derived.Test.YtpiknklaikcilaaDrRo2
import Derived.Test.YtpiknklaikcilaaRo7
import Derived.Test.YtpiknklaikcilaaRo4
import Derived.Test.YtpiknklaikcilaaDiLaw
namespace Go.Proofs.Ytpiknklaikcilaa.fnDirect
open Go.RowKit

theorem direct_ge {n : Nat} {rs : List (Int × Int × Int)} {a b : Int} (h : 0 ≤ direct n rs a b) : ∃ s t : Nat, a = s ∧ b = t ∧ s < n ∧ t < n ∧ s ≠ t ∧ RV n rs ∧ roadsValid n rs = true ∧ 0 ≤ edge rs s t ∧ direct n rs a b = edge rs s t := by
  cases hv : roadsValid n rs
  · rw [direct, hv] at h
    rw [if_neg (by simp)] at h
    omega
  obtain ⟨m, e, hrv⟩ := roadsValid_t hv
  obtain rfl : n = m := by omega
  have hd : direct n rs a b = edge rs a b := by rw [direct, hv]; rfl
  rw [hd] at h ⊢
  obtain ⟨_, _, a0, an, b0, bn, hab⟩ := hrv.edge_pos h
  obtain ⟨s, rfl⟩ := Int.eq_ofNat_of_zero_le a0
  obtain ⟨t, rfl⟩ := Int.eq_ofNat_of_zero_le b0
  exact ⟨s, t, rfl, rfl, by omega, by omega, by omega, hrv, rfl, h, rfl⟩

set_option maxRecDepth 100000 in
set_option maxHeartbeats 4000000 in
theorem walk (A : Option Addr) (xs : List Int) (n c : Nat) (w : World) (hl : xs.length = n) (hm : n ≤ maxLen) (hc : n ≤ c) (hx : Bytes xs) (hr : Rd w A (flU xs)) :
    Calls Try.prog 11 #[.slice A n c] w (Ret w (.bool true)) := by
  unfold maxLen at hm
  by_cases hn : n ≤ 1048576
  rotate_left
  · go_enter Try.func11, Try.ntmps11
    go_wp2_with fail
    go_ret
    exact ⟨rfl, Below.refl _ _⟩
  go_enter Try.func11, Try.ntmps11
  go_wp2_with fail
  refine (DrawRoadsDirect_any _ xs _ _ _ hl hn hc hx hr).mono ?_
  clear hl hr hx
  rintro e w1 ⟨k, rs, b, m, d, x, y, rfl, hk2, hk6, hl1, hm1, hin, ⟨x0, x1⟩, ⟨y0, y1⟩, ho1, hb1⟩
  have Hl1 := hideIt hl1
  clear hl1 hin
  have okx : IntOk x := by unfold IntOk; omega
  have oky : IntOk y := by unfold IntOk; omega
  obtain ⟨f, hf⟩ : ∃ f, direct k rs x y = f := ⟨_, rfl⟩
  have Hf := hideIt hf
  clear hf
  go_wp2_with fail
  refine (implRoadsDirect_any _ _ _ _ _ _ _ _ Hl1.out (by omega) (Rd.of_own ho1) okx oky).mono ?_
  rw [Hf.out]
  rintro e w2 ⟨rfl, hb2⟩
  have b2 := hb1.trans (hb2.mono hb1.size)
  have ho2 := own_below ho1 hb2 (Nat.le_refl _)
  clear ho1 hb2 hb1
  go_wp2_with fail
  refine (specRoadsDirect_any _ _ _ _ _ _ _ _ Hl1.out (by omega) (Rd.of_own ho2)).mono ?_
  rw [Hf.out]
  rintro e w3 ⟨rfl, hb3⟩
  have b3 := b2.trans (hb3.mono b2.size)
  have ho3 := own_below ho2 hb3 (Nat.le_refl _)
  clear ho2 hb3 b2
  by_cases hneg : f < 0
  · go_wp2
    go_ret
    exact ⟨rfl, b3⟩
  have hf0 : 0 ≤ f := by omega
  clear hneg
  obtain ⟨s, t, rfl, rfl, hs, ht, hst, hrv, hvv, hed, hde⟩ := direct_ge (show 0 ≤ direct k rs x y by rw [Hf.out]; exact hf0)
  obtain ⟨hcm, hfar1, hfar2, hf99, hadd, hway⟩ := direct_law hrv hs ht hed
  have hde2 : direct k rs t s = f := by rw [direct, hvv]; show edge rs t s = f; rw [hcm, ← hde, Hf.out]
  rw [← hde, Hf.out, ← roadsFar_in hvv hs ht] at hfar1
  rw [← roadsFar_in hvv hs ht] at hfar2
  rw [← hde, Hf.out] at hway
  obtain ⟨X, hX⟩ : ∃ f, roadsFar k rs s t = f := ⟨_, rfl⟩
  rw [hX] at hfar1 hfar2
  have HX := hideIt hX
  have HW := hideIt hway
  have HD := hideIt hde2
  have Hadd := hideIt hadd
  clear hX hway hde2 hadd hde hcm hed hvv hrv hf99
  rcases Nat.lt_or_gt_of_ne hst with hlt | hlt
  all_goals
    first
      | have hmm : (min (s : Int) t = s ∧ max (s : Int) t = t) := by omega
      | have hmm : (min (s : Int) t = t ∧ max (s : Int) t = s) := by omega
    have hadd := Hadd.out
    rw [hmm.1, hmm.2] at hadd
    have Hadd2 := hideIt hadd
    have hlti : (s : Int) < (t : Int) ∨ (t : Int) < (s : Int) := by omega
    clear hadd hmm
    go_wp2_with fail
    refine (implRoadsAdd_any _ _ _ _ _ _ _ _ _ Hl1.out (by omega) (Rd.of_own ho3)).mono ?_
    rw [roadsAdd_f Hadd2.out, Hadd2.out]
    rintro e w4 ⟨A4, c4, rfl, ho4', hb4⟩
    have b4 := b3.trans (hb4.mono b3.size)
    have ho4 := own_below ho3 hb4 (Nat.le_refl _)
    clear ho3 hb4 ho4' b3
    go_wp2_with fail
    refine (implRoadsFar_any _ _ _ _ _ _ _ _ Hl1.out (by omega) (Rd.of_own ho4) okx oky).mono ?_
    rw [HX.out]
    rintro e w5 ⟨rfl, hb5⟩
    have b5 := b4.trans (hb5.mono b4.size)
    have ho5 := own_below ho4 hb5 (Nat.le_refl _)
    clear ho4 hb5 b4
    go_wp2_with fail
    refine (implRoadsDirect_any _ _ _ _ _ _ _ _ Hl1.out (by omega) (Rd.of_own ho5) oky okx).mono ?_
    rw [HD.out]
    rintro e w6 ⟨rfl, hb6⟩
    have b6 := b5.trans (hb6.mono b5.size)
    have ho6 := own_below ho5 hb6 (Nat.le_refl _)
    clear ho5 hb6 b5
    have hlit := World.ownsRow_lit (base := w6.heap.size) (e := 3) (size := 1) w6 #[.int .i64 s, .int .i64 t] 2 (Nat.le_refl _) (by unfold maxLen; omega) rfl
    go_wp2_with fail
    refine (implWayLength_any _ _ _ _ _ _ [(s : Int), (t : Int)] 2 2 _ Hl1.out (by omega) (Rd.of_own (ho6.alloc _)) rfl (by omega) (Rd.of_own hlit) (by omega) (fun i hi => ?_)).mono ?_
    · match i, hi with
      | 0, _ => exact okx
      | 1, _ => exact oky
    rw [HW.out]
    rintro e w7 ⟨rfl, hb7⟩
    have b7 := (b6.alloc b6.size (.cells #[.int .i64 s, .int .i64 t] 3)).trans (hb7.mono (Nat.le_trans b6.size (by simp)))
    go_wp2
    go_ret
    exact ⟨rfl, b7⟩
end Go.Proofs.Ytpiknklaikcilaa.fnDirect

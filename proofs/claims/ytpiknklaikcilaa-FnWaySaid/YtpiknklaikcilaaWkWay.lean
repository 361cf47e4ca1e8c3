/- The walk of FnWay. -/
import Derived.Test.YtpiknklaikcilaaDrWa
import Derived.Test.YtpiknklaikcilaaWaLaw
import Derived.Test.YtpiknklaikcilaaRo4
namespace Go.Proofs.Ytpiknklaikcilaa.fnWay
open Go.RowKit

set_option maxRecDepth 100000 in
set_option maxHeartbeats 4000000 in
theorem walk (A : Option Addr) (xs : List Int) (n c : Nat) (A' : Option Addr) (xs' : List Int) (n' c' : Nat) (w : World) (hl : xs.length = n) (hm : n ≤ maxLen) (hc : n ≤ c) (hx : Bytes xs) (hr : Rd w A (flU xs))
    (_hl' : xs'.length = n') (hm' : n' ≤ maxLen) (_hc' : n' ≤ c') (_hx' : Bytes xs') (_hr' : Rd w A' (flU xs')) :
    Calls Try.prog 10 #[.slice A n c, .slice A' n' c'] w (Ret w (.bool true)) := by
  unfold maxLen at hm hm'
  by_cases hn : n ≤ 1048576
  rotate_left
  · go_enter Try.func10, Try.ntmps10
    go_wp2_with fail
    go_ret
    exact ⟨rfl, Below.refl _ _⟩
  by_cases hn' : n' ≤ 1048576
  rotate_left
  · go_enter Try.func10, Try.ntmps10
    go_wp2_with fail
    go_ret
    exact ⟨rfl, Below.refl _ _⟩
  go_enter Try.func10, Try.ntmps10
  go_wp2_with fail
  refine (DrawWayLength_any _ xs _ _ _ hl hn hc hx hr).mono ?_
  clear hl _hl' hr _hr' hx _hx'
  rintro e w1 ⟨k, rs, b, m, d, ws, b', q, d', rfl, hk2, hk6, hl1, hm1, hlw, hq16, hok, ho1, hw1, hb1⟩
  have Hl1 := hideIt hl1
  have Hlw := hideIt hlw
  have Hok : Hid (∀ k, k < ws.length → IntOk (a1 ws k)) := hideIt hok
  have hcap := own_cap hw1
  clear hl1 hlw hok
  obtain ⟨f, hf⟩ : ∃ f, wayLength k rs ws = f := ⟨_, rfl⟩
  have Hf := hideIt hf
  clear hf
  go_wp2_with fail
  refine (implWayLength_any _ _ _ _ _ _ _ _ _ _ Hl1.out (by omega) (Rd.of_own ho1) Hlw.out (by omega) (Rd.of_own hw1) hcap Hok.out).mono ?_
  rw [Hf.out]
  rintro e w2 ⟨rfl, hb2⟩
  have b2 := hb1.trans (hb2.mono hb1.size)
  have ho2 := own_below ho1 hb2 (Nat.le_refl _)
  have hw2 := own_below hw1 hb2 (Nat.le_refl _)
  clear ho1 hw1 hb2 hb1
  go_wp2_with fail
  refine (specWayLength_any _ _ _ _ _ _ _ _ _ _ Hl1.out (by omega) (Rd.of_own ho2) Hlw.out (by omega) (Rd.of_own hw2)).mono ?_
  rw [Hf.out]
  rintro e w3 ⟨rfl, hb3⟩
  have b3 := b2.trans (hb3.mono b2.size)
  have ho3 := own_below ho2 hb3 (Nat.le_refl _)
  have hw3 := own_below hw2 hb3 (Nat.le_refl _)
  clear ho2 hw2 hb3 b2
  by_cases hneg : f < 0
  · go_wp2
    go_ret
    exact ⟨rfl, b3⟩
  have hf0 : 0 ≤ f := by omega
  clear hneg
  obtain ⟨kk, hkk, hrv, hway, hsumf⟩ := wayLength_ge (show 0 ≤ wayLength k rs ws by rw [Hf.out]; exact hf0)
  obtain rfl : k = kk := by omega
  have hq1 : 1 ≤ q := by rw [← Hlw.out]; exact hway.1
  obtain ⟨p, hp⟩ : ∃ p, n' % q = p := ⟨_, rfl⟩
  have hpq : p < q := by rw [← hp]; exact Nat.mod_lt _ (by omega)
  have hrem : (n' : Int).tmod (q : Int) = (p : Int) := by rw [← hp]; exact (Int.ofNat_tmod n' q).symm
  obtain ⟨L1, L2, L3, L4⟩ := way_law hrv hway (k := p) (by rw [Hlw.out]; exact hpq)
  have ht0 := hway.town hrv (i := 0) (by rw [Hlw.out]; omega)
  have ht1 := hway.town hrv (i := q - 1) (by rw [Hlw.out]; omega)
  obtain ⟨x, hxe⟩ : ∃ x, a1 ws 0 = x := ⟨_, rfl⟩
  obtain ⟨y, hye⟩ : ∃ y, a1 ws (q - 1) = y := ⟨_, rfl⟩
  rw [Hlw.out, hxe, hye] at L3 L4
  rw [hxe] at ht0
  rw [hye] at ht1
  have okx : IntOk x := by unfold IntOk; omega
  have oky : IntOk y := by unfold IntOk; omega
  have hc0 := row1_a hw3 (k := 0) (by rw [Hlw.out]; omega)
  have hc1 := row1_a hw3 (k := q - 1) (by rw [Hlw.out]; omega)
  rw [hxe] at hc0
  rw [hye] at hc1
  rw [Hf.out] at L1 L2 L4
  obtain ⟨X, hX⟩ : ∃ f, roadsFar k rs x y = f := ⟨_, rfl⟩
  rw [hX] at L3 L4
  obtain ⟨U, hU⟩ : ∃ f, wayLength k rs (ws.take (p + 1)) = f := ⟨_, rfl⟩
  obtain ⟨V, hV⟩ : ∃ f, wayLength k rs (ws.drop p) = f := ⟨_, rfl⟩
  rw [hU, hV] at L2
  have hUV : IntKind.i64.wrap (U + V) = f := by
    rw [L2]
    have : f ≤ 99 * 16 := by
      have h1 := wayLength_of hrv hway
      rw [Hf.out] at h1
      rw [h1]
      have h2 := hrv.waySum_in (ws := ws) ws.length (by
        have := (wayOk_iff hrv).2 hway
        unfold wayOk at this
        simp only [Bool.and_eq_true] at this
        exact this.2)
      obtain ⟨j, hj⟩ : ∃ j, ws.length = j + 1 := ⟨ws.length - 1, by rw [Hlw.out]; omega⟩
      have h3 := waySum_eq rs ws j
      rw [hj] at h2 ⊢
      rw [h3] at h2
      have := Hlw.out
      show sumTo (part rs ws) j ≤ _
      omega
    exact IntWalk.i64_in _ (by omega)
  have HX := hideIt hX
  have HU := hideIt hU
  have HV := hideIt hV
  have HL1 := hideIt L1
  have hwq : IntKind.i64.wrap ((q : Int) - 1) = (q : Int) - 1 := IntWalk.i64_in _ (by omega)
  have hwp : IntKind.i64.wrap ((p : Int) + 1) = (p : Int) + 1 := IntWalk.i64_in _ (by omega)
  have hqq : ((q : Int) - 1).toNat = q - 1 := by omega
  have hqa : (0 : Int) ≤ (q : Int) - 1 := by omega
  have hqb : (q : Int) - 1 < (q : Int) := by omega
  have hq0 : (0 : Int) < (q : Int) := by omega
  have hqz : ((q : Int) == 0) = false := by simp; omega
  have hqn : ¬ (q : Int) = 0 := by omega
  have hqi : (1 : Int) ≤ (q : Int) := by omega
  have Htk := hideIt (show (ws.take (p + 1)).length = p + 1 by rw [List.length_take, Hlw.out]; omega)
  have Hdk := hideIt (show (ws.drop p).length = q - p by rw [List.length_drop, Hlw.out])
  have Hrv2 := hideIt (show ws.reverse.length = q by rw [List.length_reverse, Hlw.out])
  have Hokt : Hid (∀ k, k < (ws.take (p + 1)).length → IntOk (a1 (ws.take (p + 1)) k)) := hideIt (fun i hi => by
    rw [Htk.out] at hi
    rw [a1_take _ _ hi]
    exact Hok.out i (by rw [Hlw.out]; omega))
  have Hokd : Hid (∀ k, k < (ws.drop p).length → IntOk (a1 (ws.drop p) k)) := hideIt (fun i hi => by
    rw [Hdk.out] at hi
    rw [a1_drop]
    exact Hok.out (p + i) (by rw [Hlw.out]; omega))
  have Hokr : Hid (∀ k, k < ws.reverse.length → IntOk (a1 ws.reverse k)) := hideIt (fun i hi => by
    rw [Hrv2.out] at hi
    rw [a1_rev _ (by rw [Hlw.out]; exact hi)]
    exact Hok.out _ (by rw [Hlw.out]; omega))
  clear hkk hrv hway hsumf hxe hye hX hU hV L1 L2 hp
  go_wp2_with fail
  refine (implRoadsFar_any _ _ _ _ _ _ _ _ Hl1.out (by omega) (Rd.of_own ho3) okx oky).mono ?_
  rw [HX.out]
  rintro e w4 ⟨rfl, hb4⟩
  have b4 := b3.trans (hb4.mono b3.size)
  have ho4 := own_below ho3 hb4 (Nat.le_refl _)
  have hw4 := own_below hw3 hb4 (Nat.le_refl _)
  clear ho3 hw3 hb4 b3 hc0 hc1 hwq hqq hrem
  have hro := Rd.of_own ho4
  have hrw := Rd.of_own hw4
  have hrt := hrw.take1 (p + 1)
  have hrd := hrw.drop1 p (by rw [Hlw.out]; omega)
  have hrd0 : Rd w4 (some ⟨b', p, none⟩) (fl1 (ws.drop p)) := by rw [Nat.zero_add] at hrd; exact hrd
  have g1 : (p : Int) + 1 ≤ (d' : Int) := by omega
  have g2 : (0 : Int) ≤ (p : Int) + 1 := by omega
  have g3 : (p : Int) ≤ (q : Int) := by omega
  have g4 : ((p : Int) + 1).toNat = p + 1 := by omega
  have g5 : ¬ d' = 0 := by omega
  have g6 : ¬ d' = p := by omega
  have g7 : (q : Int) ≤ (d' : Int) := by omega
  have hd0 : decide (0 ≤ X) = true := decide_eq_true L3
  have hd1 : decide (X ≤ f) = true := decide_eq_true L4
  clear ho4 hw4
  go_wp2
  have k1 : m ≤ 1048576 := by omega
  have k2 : q ≤ 1048576 := by omega
  have k3 : p + 1 ≤ 1048576 := by omega
  have k4 : q - p ≤ 1048576 := by omega
  have k5 : p + 1 ≤ d' := by omega
  have k6 : q - p ≤ d' - p := by omega
  go_region_held3 (fun w' => Below w4.heap.size w4 w')
    (first | exact (Below.refl _ _).drew | exact B1 | exact B2 | exact B3 | exact B4)
    (first
      | (go_at_call 37
         refine (backOf_any _ _ _ _ _ Hlw.out k2 (hrw.below (by assumption) (Nat.le_refl _))).mono ?_
         rintro e w5 ⟨A5, c5, rfl, ho5, hb5⟩
         have B1 := below_from (by assumption) hb5)
      | (go_at_call 26
         (with_reducible refine (implWayLength_any _ _ rs m d (some ⟨b', 0 + p, none⟩) (ws.drop p) (q - p) (d' - p) _ Hl1.out k1 (hro.below B3 (Nat.le_refl _)) Hdk.out k4 (hrd.below B3 (Nat.le_refl _)) k6 Hokd.out).mono ?_)
         rw [HV.out]
         rintro e w8 ⟨rfl, hb8⟩
         have B4 := below_from B3 hb8)
      | (go_at_call 26
         (with_reducible refine (implWayLength_any _ _ rs m d (some ⟨b', p, none⟩) (ws.drop p) (q - p) (d' - p) _ Hl1.out k1 (hro.below B3 (Nat.le_refl _)) Hdk.out k4 (hrd0.below B3 (Nat.le_refl _)) k6 Hokd.out).mono ?_)
         rw [HV.out]
         rintro e w8 ⟨rfl, hb8⟩
         have B4 := below_from B3 hb8)
      | (go_at_call 26
         (with_reducible refine (implWayLength_any _ _ rs m d (some ⟨b', 0, none⟩) (ws.take (p + 1)) (p + 1) d' _ Hl1.out k1 (hro.below B2 (Nat.le_refl _)) Htk.out k3 (hrt.below B2 (Nat.le_refl _)) k5 Hokt.out).mono ?_)
         rw [HU.out]
         rintro e w7 ⟨rfl, hb7⟩
         have B3 := below_from B2 hb7)
      | (go_at_call 26
         (with_reducible refine (implWayLength_any _ _ rs m d A5 ws.reverse q c5 _ Hl1.out k1 (hro.below B1 (Nat.le_refl _)) Hrv2.out k2 (Rd.of_own ho5) (own_cap ho5) Hokr.out).mono ?_)
         rw [HL1.out]
         rintro e w6 ⟨rfl, hb6⟩
         have B2 := below_from B1 hb6))
  all_goals
    go_wp2
    go_ret
    exact ⟨rfl, b4.trans (B4.mono b4.size)⟩
end Go.Proofs.Ytpiknklaikcilaa.fnWay

/- Walks: PartsSell of the reference. -/
import Derived.Test.YtfnpkbfgemcbaaaPs3
namespace Go.Proofs.Ytfnpkbfgemcbaaa
open Go.RowKit

set_option maxRecDepth 100000 in
set_option maxHeartbeats 1000000 in
theorem l5Stretch_any (A : Option Addr) (ps : List (Int × Int)) (n cap : Nat) (f t : Int) (r : Bool) (w : World) (hl : ps.length = n) (hn : n ≤ 1048576) (hr : Rd w A (fl2 ps)) (hok : rideOk ps f t = r) :
    Calls Try.prog 35 #[.slice A n cap, .int .i64 f, .int .i64 t] w (Ret w (.bool r)) := by
  obtain ⟨P, hP⟩ : ∃ P, partsLength ps = P := ⟨_, rfl⟩
  have HP := hideIt hP
  by_cases hv : partsValid ps = true
  rotate_left
  · have hv' : partsValid ps = false := by simpa using hv
    obtain rfl : P = -1 := by rw [← hP, partsLength, if_neg hv]
    obtain rfl : false = r := by rw [← hok, rideOk, hv']; rfl
    clear hok hP hv hv'
    go_enter Try.func35, Try.ntmps35
    go_wp2_with fail
    refine (specPartsLength_any _ _ _ _ _ hl hn hr).mono ?_
    rw [HP.out]
    rintro e w1 ⟨rfl, hb1⟩
    go_wp2
    go_ret
    exact ⟨rfl, hb1⟩
  have hr' : (decide (0 ≤ f) && (decide (f < t) && decide (t ≤ P))) = r := by rw [← hok, rideOk, hv, ← hP, partsLength, if_pos hv]; rfl
  have hPin : 1 ≤ P ∧ P ≤ 1188 := by
    rw [← hP, partsLength, if_pos hv]
    have h1 := length_le_sum hv
    have h2 := (partsValid_len hv).1
    have h3 := sumB_owners hv
    have h4 := owners_le hv
    omega
  obtain ⟨P0, P1⟩ := hPin
  have hw1 : IntKind.i64.wrap (P - 1) = P - 1 := IntWalk.i64_in _ (by omega)
  clear hok hP hv
  by_cases c0 : 0 ≤ f ∧ f ≤ P - 1
  · have hw2 : IntKind.i64.wrap (f + 1) = f + 1 := IntWalk.i64_in _ (by omega)
    by_cases c1 : f + 1 ≤ t ∧ t ≤ P
    · obtain rfl : true = r := by rw [← hr', decide_eq_true c0.1, decide_eq_true (show f < t by omega), decide_eq_true c1.2]; rfl
      clear hr'
      go_enter Try.func35, Try.ntmps35
      go_wp2_with fail
      refine (specPartsLength_any _ _ _ _ _ hl hn hr).mono ?_
      rw [HP.out]
      rintro e w1 ⟨rfl, hb1⟩
      go_wp2_with fail
      refine (l6In_t _ _ _ _ c0.1 c0.2).mono ?_
      rintro e w2 ⟨rfl, rfl⟩
      go_wp2_with fail
      refine (l6In_t _ _ _ _ c1.1 c1.2).mono ?_
      rintro e w2 ⟨rfl, rfl⟩
      go_wp2
      go_ret
      exact ⟨rfl, hb1⟩
    · obtain rfl : false = r := by
        rw [← hr']
        by_cases c2 : f < t
        · rw [decide_eq_false (show ¬ t ≤ P by omega)]; simp
        · rw [decide_eq_false c2]; simp
      clear hr'
      go_enter Try.func35, Try.ntmps35
      go_wp2_with fail
      refine (specPartsLength_any _ _ _ _ _ hl hn hr).mono ?_
      rw [HP.out]
      rintro e w1 ⟨rfl, hb1⟩
      go_wp2_with fail
      refine (l6In_t _ _ _ _ c0.1 c0.2).mono ?_
      rintro e w2 ⟨rfl, rfl⟩
      go_wp2_with fail
      refine (l6In_f _ _ _ _ (by omega)).mono ?_
      rintro e w2 ⟨rfl, rfl⟩
      go_wp2
      go_ret
      exact ⟨rfl, hb1⟩
  · obtain rfl : false = r := by
      rw [← hr']
      by_cases c2 : 0 ≤ f
      · by_cases c3 : f < t
        · rw [decide_eq_false (show ¬ t ≤ P by omega)]; simp
        · rw [decide_eq_false c3]; simp
      · rw [decide_eq_false c2]; rfl
    clear hr'
    go_enter Try.func35, Try.ntmps35
    go_wp2_with fail
    refine (specPartsLength_any _ _ _ _ _ hl hn hr).mono ?_
    rw [HP.out]
    rintro e w1 ⟨rfl, hb1⟩
    go_wp2_with fail
    refine (l6In_f _ _ _ _ (by omega)).mono ?_
    rintro e w2 ⟨rfl, rfl⟩
    go_wp2
    go_ret
    exact ⟨rfl, hb1⟩
set_option maxRecDepth 100000 in
set_option maxHeartbeats 4000000 in
theorem specPartsSell_any (A : Option Addr) (ps : List (Int × Int)) (n cap : Nat) (f t o : Int) (w : World) (hl : ps.length = n) (hn : n ≤ 1048576) (hr : Rd w A (fl2 ps)) :
    Calls Try.prog 10 #[.slice A n cap, .int .i64 f, .int .i64 t, .int .i64 o] w (RetSB w 38 2 (partsSell ps f t o).length (fl2 (partsSell ps f t o)) (sellOk ps f t o)) := by
  cases hok : rideOk ps f t
  · have hs := sellOk_no (o := o) (show sellIn ps f t o = false by rw [sellIn, hok]; rfl)
    rw [hs, partsSell_f hs]
    have Hok := hideIt hok
    clear hok hs
    go_enter Try.func10, Try.ntmps10
    go_wp2_with fail
    refine (l5Stretch_any _ _ _ _ _ _ _ _ hl hn hr Hok.out).mono ?_
    rintro e w1 ⟨rfl, hb1⟩
    go_wp2
    go_ret2
    exact ⟨_, _, rfl, own_base (own_empty w1 38 2) hb1.size, hb1.alloc hb1.size _⟩
  have Hok := hideIt hok
  by_cases c0 : 0 ≤ o ∧ o ≤ 5
  rotate_left
  · have hs := sellOk_no (show sellIn ps f t o = false by
      rw [sellIn]
      by_cases q : 0 ≤ o
      · rw [decide_eq_false (fun h => c0 ⟨q, h⟩)]; simp
      · rw [decide_eq_false q]; simp)
    rw [hs, partsSell_f hs]
    clear hok hs
    go_enter Try.func10, Try.ntmps10
    go_wp2_with fail
    refine (l5Stretch_any _ _ _ _ _ _ _ _ hl hn hr Hok.out).mono ?_
    rintro e w1 ⟨rfl, hb1⟩
    go_wp2_with fail
    refine (l6In_f _ _ _ _ (by omega)).mono ?_
    rintro e w2 ⟨rfl, rfl⟩
    go_wp2
    go_ret2
    exact ⟨_, _, rfl, own_base (own_empty w1 38 2) hb1.size, hb1.alloc hb1.size _⟩
  have hin : sellIn ps f t o = true := by rw [sellIn, hok, decide_eq_true c0.1, decide_eq_true c0.2]; rfl
  obtain ⟨hv, f0, ft, tS, hS, hle⟩ := rideOk_t hok
  have hp : sellOk ps f t o = partsValid (plain (soldO (owners ps) f t o)) := by rw [sellOk, hin]; rfl
  have hq : partsSell ps f t o = plainIf (soldO (owners ps) f t o) := by rw [partsSell, plainIf, hp]
  rw [hp, hq]
  have Hv := hideIt hv
  obtain ⟨F, rfl⟩ := Int.eq_ofNat_of_zero_le f0
  obtain ⟨T, rfl⟩ := Int.eq_ofNat_of_zero_le (show 0 ≤ t by omega)
  obtain ⟨L, hL⟩ : ∃ L, (owners ps).length = L := ⟨_, rfl⟩
  rw [hL] at hS hle
  have HL := hideIt hL
  have hFT : F < T := by omega
  have hTL : T ≤ L := by omega
  have H0 := hideIt (soldO_none (owners ps) (F : Int) o)
  have Hset : Hid (∀ k : Nat, F ≤ k → k < L → (soldO (owners ps) F k o).set k o = soldO (owners ps) F ((k : Int) + 1) o) := hideIt (fun k h1 h2 => soldO_set _ _ _ (by omega) (by omega))
  have Hsl : Hid (∀ k : Int, (soldO (owners ps) F k o).length = L) := hideIt (fun k => by rw [soldO_len, hL])
  clear hok hp hq hin hv hL hS f0 ft tS
  go_enter Try.func10, Try.ntmps10
  go_wp2_with fail
  refine (l5Stretch_any _ _ _ _ _ _ _ _ hl hn hr Hok.out).mono ?_
  rintro e w1 ⟨rfl, hb1⟩
  go_wp2_with fail
  refine (l6In_t _ _ _ _ c0.1 c0.2).mono ?_
  rintro e w2 ⟨rfl, rfl⟩
  go_wp2_with fail
  refine (l5Owners_any _ _ _ _ _ hl (hr.below hb1 (Nat.le_refl _)) Hv.out).mono ?_
  rw [HL.out]
  rintro e w2 ⟨A2, c2, rfl, ho2, hb2⟩
  obtain ⟨g, rfl, hg1, hg2⟩ := own_some ho2 (by omega)
  have b2 := hb1.trans (hb2.mono hb1.size)
  rw [← H0.out] at ho2
  go_wp2
  go_loopw [11] (fun i wr => ∃ k : Nat, F ≤ k ∧ k ≤ T ∧ i = .int .i64 k ∧ wr.ownsRow w1.heap.size 3 1 (.slice (some ⟨g, 0, none⟩) L c2) L (fl1 (soldO (owners ps) F k o)) ∧ Below w1.heap.size w1 wr) (fun i _ => T - (intOf i).toNat)
  case atStart => exact ⟨F, Nat.le_refl _, by omega, rfl, ho2, hb2⟩
  case round =>
    obtain ⟨k, hFk, hk, rfl, hrow, bd⟩ := hrel
    clear ho2 hb2
    by_cases hlt : k < T
    · have hkl : k < (soldO (owners ps) F k o).length := by rw [Hsl.out]; omega
      have hca := row1_a hrow hkl
      have hfr := fun j => hrow.frozenAt j
      have hst := row1_store hrow hkl o
      rw [Hset.out k hFk (by omega)] at hst
      have hkT : (k : Int) < (T : Int) := by omega
      have hkL : (k : Int) < (L : Int) := by omega
      have bf := bd.setCell (p := ⟨g, k, none⟩) hg1 (.int .i64 o)
      clear hrow hkl bd
      go_wp2
      go_roundw
      case rel => exact ⟨k + 1, by omega, by omega, by go_num, hst, bf⟩
      case measure => simp [intOf]; omega
    · obtain rfl : k = T := by omega
      have Hlen := hideIt (Hsl.out k)
      have Hpl : Hid ((plain (soldO (owners ps) F k o)).length ≤ 1048576) := hideIt (by have := (PlIn.plain (soldO (owners ps) F k o)).1; rw [Hlen.out] at this; omega)
      have q2 := hb1.trans (bd.mono hb1.size)
      cases hv2 : partsValid (plain (soldO (owners ps) F k o))
      all_goals
        have Hv2 := hideIt hv2
        clear hv2
        go_wp2_with fail
        refine (l5Parts_any _ _ _ _ _ Hlen.out (by omega) (Rd.of_own hrow)).mono ?_
        rintro e w3 ⟨A3, c3, rfl, ho3, hb3⟩
        have q3 := q2.trans (hb3.mono q2.size)
        go_wp2_with fail
        refine (specPartsValid_any _ _ _ _ _ _ rfl Hpl.out (Rd.of_own ho3) Hv2.out).mono ?_
        rintro e w4 ⟨rfl, rfl⟩
        go_wp2
        go_ret2
        rw [plainIf, Hv2.out]
      · exact ⟨_, _, rfl, own_base (own_empty w3 38 2) q3.size, q3.alloc q3.size _⟩
      · exact ⟨_, _, rfl, own_base ho3 q2.size, q3⟩
end Go.Proofs.Ytfnpkbfgemcbaaa

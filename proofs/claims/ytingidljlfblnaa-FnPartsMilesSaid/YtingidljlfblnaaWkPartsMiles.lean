/- The walk of FnPartsMiles. -/
import Derived.Test.YtingidljlfblnaaSame
import Derived.Test.YtingidljlfblnaaDrPa
import Derived.Test.YtingidljlfblnaaPa13
namespace Go.Proofs.Ytingidljlfblnaa.fnPartsMiles
open Go.RowKit

theorem miles_in6 {ps : List (Int × Int)} (hv : partsValid ps = true) (k : Nat) : InR 0 k (workSum 0 (sumB ps) (upto (mileAt ps) k)) := by
  have := workSum_in 0 (sumB ps) (upto (mileAt ps) k)
  rw [upto_len] at this
  exact this
theorem step6 {ps : List (Int × Int)} (k : Nat) (hk : (k : Int) < sumB ps) : workSum 0 (sumB ps) (upto (mileAt ps) (k + 1)) = (workSum 0 (sumB ps) (upto (mileAt ps) k)).set ((owners ps).getD k 0).toNat (a1 (workSum 0 (sumB ps) (upto (mileAt ps) k)) ((owners ps).getD k 0).toNat + 1) := by
  rw [upto_succ, workSum_snoc]
  unfold workStep mileAt
  rw [if_pos ⟨by simp, hk⟩]
  rfl
theorem last6 {ps : List (Int × Int)} (hv : partsValid ps = true) : workSum 0 (sumB ps) (upto (mileAt ps) (owners ps).length) = miles ps := workedOf_miles hv

set_option maxHeartbeats 2000000 in
theorem walk (A : Option Addr) (xs : List Int) (n c : Nat) (w : World) (hl : xs.length = n) (hm : n ≤ maxLen) (hc : n ≤ c) (hx : Bytes xs) (hr : Rd w A (flU xs)) :
    Calls Try.prog 8 #[.slice A n c] w (Ret w (.bool true)) := by
  unfold maxLen at hm
  by_cases hn : n ≤ 1048576
  · obtain ⟨i0, hi, hz0, hz1, hz2⟩ := info_parts info_int
    obtain ⟨cs, hcs⟩ : ∃ cs : Array Value, cs.toList = fl1 (List.replicate 6 0) := ⟨(fl1 (List.replicate 6 0)).toArray, rfl⟩
    have Hcs := hideIt hcs
    clear hcs
    go_enter Try.func8, Try.ntmps8
    go_wp2_with fail
    refine (DrawPartsMiles_any _ xs _ _ _ hl hn hc hx hr).mono ?_
    rintro e w1 ⟨ps, A1, n1, c1, rfl, hl1, hn1, ho1, hb1⟩
    have Hl1 := hideIt hl1
    clear hl1
    cases hv : partsValid ps
    · have Hv := hideIt hv
      clear hv
      go_wp2_with fail
      refine (implPartsMiles_any _ _ _ _ _ Hl1.out (by omega) (Rd.of_own ho1)).mono ?_
      rw [Hv.out, partsMiles_f Hv.out]
      rintro e w2 ⟨A2, c2, rfl, ho2, hb2⟩
      have b2 := hb1.trans (hb2.mono hb1.size)
      go_wp2_with fail
      refine (specPartsMiles_any _ _ _ _ _ Hl1.out (by omega) ((Rd.of_own ho1).below hb2 (Nat.le_refl _))).mono ?_
      rw [Hv.out, partsMiles_f Hv.out]
      rintro e w3 ⟨A3, c3, rfl, ho3, hb3⟩
      have b3 := b2.trans (hb3.mono b2.size)
      go_wp2_with fail
      refine (sameInts_any _ _ [] [] _ _ _ _ _ rfl rfl (Nat.zero_le _) (Nat.zero_le _) (Rd.nil _ _) (Rd.nil _ _)).mono ?_
      rintro e w4 ⟨rfl, hb4⟩
      have b4 := b3.trans (hb4.mono b3.size)
      go_wp2_with fail
      refine (sameInts_any _ _ [] [] _ _ _ _ _ rfl rfl (Nat.zero_le _) (Nat.zero_le _) (Rd.nil _ _) (Rd.nil _ _)).mono ?_
      rintro e w5 ⟨rfl, hb5⟩
      go_wp2
      go_ret
      exact ⟨rfl, b4.trans (hb5.mono b4.size)⟩
    · have Hv := hideIt hv
      clear hv
      have Hsum := hideIt (sumB_owners Hv.out)
      have hole := owners_le Hv.out
      have hpl : partsLength ps = (owners ps).length := by rw [partsLength, if_pos Hv.out, Hsum.out]
      go_wp2_with fail
      refine (implPartsMiles_any _ _ _ _ _ Hl1.out (by omega) (Rd.of_own ho1)).mono ?_
      rw [Hv.out, partsMiles_t Hv.out, miles_len]
      rintro e w2 ⟨A2, c2, rfl, ho2, hb2⟩
      have b2 := hb1.trans (hb2.mono hb1.size)
      have ho12 := own_below ho1 hb2 (Nat.le_refl _)
      go_wp2_with fail
      refine (specPartsMiles_any _ _ _ _ _ Hl1.out (by omega) (Rd.of_own ho12)).mono ?_
      rw [Hv.out, partsMiles_t Hv.out, miles_len]
      rintro e w3 ⟨A3, c3, rfl, ho3, hb3⟩
      have b3 := b2.trans (hb3.mono b2.size)
      have ho13 := own_below ho12 hb3 (Nat.le_refl _)
      have ho23 := own_below ho2 hb3 (Nat.le_refl _)
      go_wp2_with fail
      refine (sameInts_any _ _ _ _ _ _ _ _ _ (miles_len ps) (miles_len ps) (by omega) (by omega) (Rd.of_own ho23) (Rd.of_own ho3)).mono ?_
      rw [decide_eq_true rfl]
      rintro e w4 ⟨rfl, hb4⟩
      have b4 := b3.trans (hb4.mono b3.size)
      have ho14 := own_below ho13 hb4 (Nat.le_refl _)
      have ho24 := own_below ho23 hb4 (Nat.le_refl _)
      clear ho1 ho12 ho13 ho2 ho23 ho3 hb1 hb2 hb3 hb4 b2 b3
      go_wp2_with fail
      refine (implPartsLength_any _ _ _ _ _ Hl1.out (by omega) (Rd.of_own ho14)).mono ?_
      rw [hpl]
      rintro e w5 ⟨rfl, hb5⟩
      have b5 := b4.trans (hb5.mono b4.size)
      have ho15 := own_below ho14 hb5 (Nat.le_refl _)
      have ho25 := own_below ho24 hb5 (Nat.le_refl _)
      clear ho14 ho24 b4 hb5 hpl
      go_wp2_with (refine wpList_make_full _ rfl _ _ _ rfl w.heap.size 3 i0 _ 1 Try.underlying40 hi hz0 hz1 .i64 .i64 _ _ 6 rfl rfl rfl rfl (by rw [hz2]; omega) (by unfold maxLen; omega) b5.size ?_; intro w6 hown hgrow)
      have hz5 : w5.heap.size ≤ w6.heap.size := hgrow.size
      have B6 : Below w5.heap.size w5 w6 := (Below.refl _ _).grown hgrow (Nat.le_refl _) (by simp)
      have Hb5 := hideIt b5
      have hw5 := b5.size
      clear b5 hgrow
      go_loopw [10] (fun i wr => ∃ k : Nat, k ≤ (owners ps).length ∧ i = .int .i64 k ∧ wr.ownsRow w.heap.size 3 1 (.slice (some ⟨w5.heap.size, 0, none⟩) 6 6) 6 (fl1 (workSum 0 (sumB ps) (upto (mileAt ps) k))) ∧ Below w5.heap.size w5 wr) (fun i _ => (owners ps).length - (intOf i).toNat)
      case atStart => exact ⟨0, by omega, rfl, (by rw [show workSum 0 (sumB ps) (upto (mileAt ps) 0) = List.replicate 6 0 from rfl, ← made1]; exact hown), B6⟩
      case round =>
        obtain ⟨k, hk, rfl, hrow, hB⟩ := hrel
        clear hown B6
        have ho1k := own_below ho15 hB (Nat.le_refl _)
        by_cases hlt : k < (owners ps).length
        · obtain ⟨ow, how⟩ : ∃ ow, (owners ps).getD k 0 = ow := ⟨_, rfl⟩
          have hpo : partsOwner ps k = (ow, true) := by
            rw [partsOwner, if_pos ⟨Hv.out, by omega, by omega⟩, Int.toNat_natCast, how]
          obtain ⟨f1, f2⟩ := owners_val Hv.out ow (by rw [← how]; simp [hlt])
          have hs6 := step6 (ps := ps) k (by rw [Hsum.out]; omega)
          rw [how] at hs6
          have Hs6 := hideIt hs6
          clear how hs6
          go_wp2_with fail
          refine (implPartsOwner_any _ _ _ _ k _ Hl1.out (by omega) (Rd.of_own ho1k)).mono ?_
          rw [hpo]
          rintro e w7 ⟨rfl, hb7⟩
          have hrow7 := own_below hrow hb7 (Nat.le_refl _)
          have hB7 := hB.trans (hb7.mono hB.size)
          have hlw : ow.toNat < (workSum 0 (sumB ps) (upto (mileAt ps) k)).length := by rw [workSum_len]; omega
          have hin := miles_in6 Hv.out k _ hlw
          have hco := row1_a hrow7 hlw
          have hfr := fun j => hrow7.frozenAt j
          have hsto := row1_store hrow7 hlw (a1 (workSum 0 (sumB ps) (upto (mileAt ps) k)) ow.toNat + 1)
          rw [← Hs6.out] at hsto
          clear hrow hrow7 hlw hpo
          go_wp2_with fail
          go_roundw
          case rel =>
            exact ⟨k + 1, by omega, by go_num, hsto, (hB7.setCell (p := ⟨w5.heap.size, ow.toNat, none⟩) (Nat.le_refl _) _)⟩
          case measure => simp [intOf]; omega
        · obtain rfl : k = (owners ps).length := by omega
          rw [last6 Hv.out] at hrow
          have ho2k := own_below ho25 hB (Nat.le_refl _)
          go_wp2_with fail
          refine (sumOf_any _ _ _ _ 2000 _ (miles_len ps) (by omega) (Rd.of_own ho2k) (by omega) (miles_in Hv.out)).mono ?_
          rw [sum1_miles Hv.out, Hsum.out]
          rintro e w7 ⟨rfl, rfl⟩
          go_wp2_with fail
          refine (sameInts_any _ _ _ _ _ _ _ _ _ (miles_len ps) (miles_len ps) (by omega) (by omega) (Rd.of_own hrow) (Rd.of_own ho2k)).mono ?_
          rw [decide_eq_true rfl]
          rintro e w8 ⟨rfl, hb8⟩
          go_wp2
          go_ret
          exact ⟨rfl, Hb5.out.trans ((hB.trans (hb8.mono hB.size)).mono hw5)⟩
  · go_enter Try.func8, Try.ntmps8
    go_wp2_with fail
    go_ret
    exact ⟨rfl, Below.refl _ _⟩
end Go.Proofs.Ytingidljlfblnaa.fnPartsMiles

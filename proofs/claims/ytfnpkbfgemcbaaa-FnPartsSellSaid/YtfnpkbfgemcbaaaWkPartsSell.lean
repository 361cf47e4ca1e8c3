/- The walk of FnPartsSell. -/
import Derived.Test.YtfnpkbfgemcbaaaDrPa3
import Derived.Test.YtfnpkbfgemcbaaaSeLaw
import Derived.Test.YtfnpkbfgemcbaaaPs4
import Derived.Test.YtfnpkbfgemcbaaaSameP
namespace Go.Proofs.Ytfnpkbfgemcbaaa.fnPartsSell
open Go.RowKit

set_option maxRecDepth 100000 in
set_option maxHeartbeats 4000000 in
theorem walk (A : Option Addr) (xs : List Int) (n c : Nat) (w : World) (hl : xs.length = n) (hm : n ≤ maxLen) (hc : n ≤ c) (hx : Bytes xs) (hr : Rd w A (flU xs)) :
    Calls Try.prog 6 #[.slice A n c] w (Ret w (.bool true)) := by
  unfold maxLen at hm
  by_cases hn : n ≤ 1048576
  rotate_left
  · go_enter Try.func6, Try.ntmps6
    go_wp2_with fail
    go_ret
    exact ⟨rfl, Below.refl _ _⟩
  go_enter Try.func6, Try.ntmps6
  go_wp2_with fail
  refine (DrawPartsSell_any _ xs _ _ _ hl hn hc hx hr).mono ?_
  clear hl hr hx
  rintro e w1 ⟨ps, ad, m, d, f, t, o, rfl, hl1, hm1, ho1, hb1⟩
  have Hl1 := hideIt hl1
  clear hl1
  have rP := Rd.of_own ho1
  clear ho1
  cases hok : sellOk ps f t o
  · have Hok := hideIt hok
    have Hp := hideIt (partsSell_f hok)
    clear hok
    go_wp2_with fail
    refine (implPartsSell_any _ _ _ _ _ _ _ _ Hl1.out (by omega) rP).mono ?_
    rw [Hok.out, Hp.out]
    rintro e w2 ⟨A2, c2, rfl, _, hb2⟩
    have q2 := hb1.trans (hb2.mono hb1.size)
    go_wp2_with fail
    refine (specPartsSell_any _ _ _ _ _ _ _ _ Hl1.out (by omega) (rP.below hb2 (Nat.le_refl _))).mono ?_
    rw [Hok.out, Hp.out]
    rintro e w3 ⟨A3, c3, rfl, _, hb3⟩
    have q3 := q2.trans (hb3.mono q2.size)
    go_wp2_with fail
    refine (sameParts_any _ _ [] [] _ _ _ _ _ rfl rfl (Nat.zero_le _) (Nat.zero_le _) (Rd.nil _ _) (Rd.nil _ _)).mono ?_
    rintro e w4 ⟨rfl, hb4⟩
    have q4 := q3.trans (hb4.mono q3.size)
    go_wp2_with fail
    refine (sameParts_any _ _ [] [] _ _ _ _ _ rfl rfl (Nat.zero_le _) (Nat.zero_le _) (Rd.nil _ _) (Rd.nil _ _)).mono ?_
    rintro e w5 ⟨rfl, hb5⟩
    go_wp2
    go_ret
    exact ⟨rfl, q4.trans (hb5.mono q4.size)⟩
  obtain ⟨Q, hQ, v1, v2, hQl, g1, g2, hL, hL2, s1, s2, hlaw⟩ := sell_law hok
  obtain ⟨q, hq⟩ : ∃ q, Q.length = q := ⟨_, rfl⟩
  obtain ⟨S, hS⟩ : ∃ q, sumB ps = q := ⟨_, rfl⟩
  rw [hS] at hL hL2 s1 s2 hlaw
  rw [hq] at hQl
  have Hok := hideIt hok
  have HQ := hideIt hQ
  have Hq := hideIt hq
  have HL := hideIt hL
  have HL2 := hideIt hL2
  have Hg1 := hideIt g1
  have Hg2 := hideIt g2
  have Hlaw : Hid (∀ k : Nat, (k : Int) < S → ∃ a b : Int, partsOwner ps k = (a, true) ∧ partsOwner Q k = (b, true) ∧ (f ≤ (k : Int) ∧ (k : Int) < t → b = o) ∧ (¬ (f ≤ (k : Int) ∧ (k : Int) < t) → b = a)) := hideIt hlaw
  clear hok hQ v1 v2 g1 g2 hL hL2 hlaw hq hS
  go_wp2_with fail
  refine (implPartsSell_any _ _ _ _ _ _ _ _ Hl1.out (by omega) rP).mono ?_
  rw [Hok.out, HQ.out, Hq.out]
  rintro e w2 ⟨A2, c2, rfl, hQ2, hb2⟩
  have q2 := hb1.trans (hb2.mono hb1.size)
  have rP2 := rP.below hb2 (Nat.le_refl _)
  have rQ2 := Rd.of_own hQ2
  clear hb1 hb2 rP hQ2
  go_wp2_with fail
  refine (specPartsSell_any _ _ _ _ _ _ _ _ Hl1.out (by omega) rP2).mono ?_
  rw [Hok.out, HQ.out, Hq.out]
  rintro e w3 ⟨A3, d3, rfl, hx3, hb3⟩
  have q3 := q2.trans (hb3.mono q2.size)
  have rP3 := rP2.below hb3 (Nat.le_refl _)
  have rQ3 := rQ2.below hb3 (Nat.le_refl _)
  clear q2 hb3 rP2 rQ2
  go_wp2_with fail
  refine (sameParts_any _ _ _ _ _ _ _ _ _ Hq.out Hq.out (by omega) (by omega) rQ3 (Rd.of_own hx3)).mono ?_
  rw [decide_eq_true rfl]
  rintro e w4 ⟨rfl, hb4⟩
  have q4 := q3.trans (hb4.mono q3.size)
  have rP4 := rP3.below hb4 (Nat.le_refl _)
  have rQ4 := rQ3.below hb4 (Nat.le_refl _)
  clear q3 hb4 rP3 rQ3 hx3
  go_wp2_with fail
  refine (implPartsLength_any _ _ _ _ _ Hl1.out (by omega) rP4).mono ?_
  rw [HL.out]
  rintro e w5 ⟨rfl, hb5⟩
  have q5 := q4.trans (hb5.mono q4.size)
  have rP5 := rP4.below hb5 (Nat.le_refl _)
  have rQ5 := rQ4.below hb5 (Nat.le_refl _)
  clear q4 hb5 rP4 rQ4
  go_wp2_with fail
  refine (implPartsPlain_any _ _ _ _ _ Hq.out (by omega) rQ5).mono ?_
  rw [Hg1.out, Hg2.out, Hq.out]
  rintro e w6 ⟨A6, c6, rfl, hp6, hb6⟩
  have q6 := q5.trans (hb6.mono q5.size)
  have rP6 := rP5.below hb6 (Nat.le_refl _)
  have rQ6 := rQ5.below hb6 (Nat.le_refl _)
  have rX6 := Rd.of_own hp6
  clear q5 hb6 rP5 rQ5 hp6
  go_wp2
  go_loopw [14] (fun i wr => ∃ k : Nat, (k : Int) ≤ S ∧ i = .int .i64 k ∧ Below w6.heap.size w6 wr) (fun i _ => S.toNat - (intOf i).toNat)
  case atStart => exact ⟨0, by omega, rfl, Below.refl _ _⟩
  case round =>
    obtain ⟨k, hk, rfl, bd⟩ := hrel
    by_cases hlt : (k : Int) < S
    · obtain ⟨a, b, e1, e2, e3, e4⟩ := Hlaw.out k hlt
      have H1 := hideIt e1
      have H2 := hideIt e2
      have H3 := hideIt e3
      have H4 := hideIt e4
      clear e1 e2 e3 e4
      go_wp2_with fail
      refine (implPartsOwner_any _ _ _ _ (k : Int) _ Hl1.out (by omega) (rP6.below bd (Nat.le_refl _))).mono ?_
      rw [H1.out]
      rintro e w7 ⟨rfl, hb7⟩
      have b7 := bd.trans (hb7.mono bd.size)
      clear bd hb7
      go_wp2_with fail
      refine (implPartsOwner_any _ _ _ _ (k : Int) _ Hq.out (by omega) (rQ6.below b7 (Nat.le_refl _))).mono ?_
      rw [H2.out]
      rintro e w8 ⟨rfl, hb8⟩
      have b8 := b7.trans (hb8.mono b7.size)
      clear b7 hb8
      by_cases c1 : f ≤ (k : Int)
      · by_cases c2 : (k : Int) < t
        · obtain rfl := H3.out ⟨c1, c2⟩
          have c3 : ¬ (k : Int) < f := by omega
          have c4 : ¬ t ≤ (k : Int) := by omega
          go_wp2
          go_roundw
          case rel => exact ⟨k + 1, by omega, by go_num, b8⟩
          case measure => simp [intOf]; omega
        · obtain rfl := H4.out (fun q => c2 q.2)
          have c3 : ¬ (k : Int) < f := by omega
          have c4 : t ≤ (k : Int) := by omega
          go_wp2
          go_roundw
          case rel => exact ⟨k + 1, by omega, by go_num, b8⟩
          case measure => simp [intOf]; omega
      · obtain rfl := H4.out (fun q => c1 q.1)
        have c3 : (k : Int) < f := by omega
        go_wp2
        go_roundw
        case rel => exact ⟨k + 1, by omega, by go_num, b8⟩
        case measure => simp [intOf]; omega
    · obtain rfl : (k : Int) = S := by omega
      have q7 := q6.trans (bd.mono q6.size)
      go_wp2_with fail
      refine (sameParts_any _ _ _ _ _ _ _ _ _ Hq.out Hq.out (by omega) (by omega) (rX6.below bd (Nat.le_refl _)) (rQ6.below bd (Nat.le_refl _))).mono ?_
      rw [decide_eq_true rfl]
      rintro e w8 ⟨rfl, hb8⟩
      have q8 := q7.trans (hb8.mono q7.size)
      have b8 := bd.trans (hb8.mono bd.size)
      go_wp2_with fail
      refine (implPartsLength_any _ _ _ _ _ Hq.out (by omega) (rQ6.below b8 (Nat.le_refl _))).mono ?_
      rw [HL2.out]
      rintro e w9 ⟨rfl, hb9⟩
      go_wp2
      go_ret
      exact ⟨by simp, q8.trans (hb9.mono q8.size)⟩
end Go.Proofs.Ytfnpkbfgemcbaaa.fnPartsSell

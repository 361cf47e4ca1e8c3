/- The walk of FnPartsJoin. -/
import Derived.Test.YtingidljlfblnaaDrPa
import Derived.Test.YtingidljlfblnaaPaLaw
import Derived.Test.YtingidljlfblnaaSameP
namespace Go.Proofs.Ytingidljlfblnaa.fnPartsJoin
open Go.RowKit

set_option maxRecDepth 100000 in
set_option maxHeartbeats 4000000 in
theorem walk (A : Option Addr) (xs : List Int) (n c : Nat) (A' : Option Addr) (xs' : List Int) (n' c' : Nat) (w : World) (hl : xs.length = n) (hm : n ≤ maxLen) (hc : n ≤ c) (hx : Bytes xs) (hr : Rd w A (flU xs))
    (hl' : xs'.length = n') (hm' : n' ≤ maxLen) (hc' : n' ≤ c') (hx' : Bytes xs') (hr' : Rd w A' (flU xs')) :
    Calls Try.prog 12 #[.slice A n c, .slice A' n' c'] w (Ret w (.bool true)) := by
  unfold maxLen at hm hm'
  by_cases hn : n ≤ 1048576
  · by_cases hn' : n' ≤ 1048576
    · go_enter Try.func12, Try.ntmps12
      go_wp2_with fail
      refine (DrawPartsJoin_any _ xs _ _ _ hl hn hc hx hr).mono ?_
      clear hl hl' hr hr' hx hx'
      rintro e w1 ⟨ps, qs, a, b, n1, n2, c1, c2, rfl, hl1, hn1, hl2, hn2, hp1, hq1, b1⟩
      have Hl1 := hideIt hl1
      have Hl2 := hideIt hl2
      clear hl1 hl2
      cases hj : joinOk ps qs
      · have Hj := hideIt hj
        have hpj : partsJoin ps qs = [] := by rw [partsJoin, hj]; rfl
        have Hpj := hideIt hpj
        clear hj hpj
        go_wp2_with fail
        refine (implPartsJoin_any _ _ _ _ _ _ _ _ _ Hl1.out (by omega) (Rd.of_own hp1) Hl2.out (by omega) (Rd.of_own hq1)).mono ?_
        rw [Hj.out, Hpj.out]
        rintro e w2 ⟨A2, c2, rfl, ho2, hb2⟩
        have b2 := b1.trans (hb2.mono b1.size)
        go_wp2_with fail
        refine (specPartsJoin_any _ _ _ _ _ _ _ _ _ Hl1.out (by omega) (Rd.of_own (own_below hp1 hb2 (Nat.le_refl _))) Hl2.out (by omega) (Rd.of_own (own_below hq1 hb2 (Nat.le_refl _))) (by omega)).mono ?_
        rw [Hj.out, Hpj.out]
        rintro e w3 ⟨A3, c3, rfl, ho3, hb3⟩
        have b3 := b2.trans (hb3.mono b2.size)
        go_wp2_with fail
        refine (sameParts_any _ _ [] [] _ _ _ _ _ rfl rfl (Nat.zero_le _) (Nat.zero_le _) (Rd.nil _ _) (Rd.nil _ _)).mono ?_
        rintro e w4 ⟨rfl, hb4⟩
        have b4 := b3.trans (hb4.mono b3.size)
        go_wp2_with fail
        refine (sameParts_any _ _ [] [] _ _ _ _ _ rfl rfl (Nat.zero_le _) (Nat.zero_le _) (Rd.nil _ _) (Rd.nil _ _)).mono ?_
        rintro e w5 ⟨rfl, hb5⟩
        go_wp2
        go_ret
        exact ⟨rfl, b4.trans (hb5.mono b4.size)⟩
      · obtain ⟨v1, v2, v3⟩ := joinOk_all hj
        have hpj : partsJoin ps qs = ps ++ qs := by rw [partsJoin, hj]; rfl
        have hlen : (ps ++ qs).length = n1 + n2 := by rw [List.length_append, Hl1.out, Hl2.out]
        obtain ⟨S1, hS1⟩ : ∃ S, sumB ps = S := ⟨_, rfl⟩
        obtain ⟨S2, hS2⟩ : ∃ S, sumB qs = S := ⟨_, rfl⟩
        have k1 := length_le_sum v1
        have k2 := length_le_sum v2
        have k3 := (partsValid_len v1).1
        have k4 := (partsValid_len v2).1
        have k5 := sumB_owners v1
        have k6 := sumB_owners v2
        have k7 := owners_le v1
        have k8 := owners_le v2
        have g1 : 1 ≤ S1 := by omega
        have g2 : 1 ≤ S2 := by omega
        have g3 : S1 ≤ 1188 := by omega
        have g4 : S2 ≤ 1188 := by omega
        have r1 : 0 ≤ (n' : Int) % S2 := Int.emod_nonneg _ (by omega)
        have r2 : (n' : Int) % S2 < S2 := Int.emod_lt_of_pos _ (by omega)
        obtain ⟨ow, how⟩ : ∃ ow, partsOwner qs ((n' : Int) % S2) = (ow, true) := ⟨_, partsOwner_in v2 _ r1 (by rw [hS2]; exact r2)⟩
        have how2 : partsOwner (ps ++ qs) (S1 + (n' : Int) % S2) = (ow, true) := by rw [← hS1, partsOwner_app hj _ r1 (by rw [hS2]; exact r2), how]
        have hL1 : partsLength ps = S1 := by rw [partsLength, if_pos v1, hS1]
        have hL2 : partsLength qs = S2 := by rw [partsLength, if_pos v2, hS2]
        have hL3 : partsLength (ps ++ qs) = S1 + S2 := by rw [partsLength, if_pos v3, sumB_app, hS1, hS2]
        have Hj := hideIt hj
        have Hpj := hideIt hpj
        have Hlen := hideIt hlen
        have How := hideIt how
        have How2 := hideIt how2
        have HL1 := hideIt hL1
        have HL2 := hideIt hL2
        have HL3 := hideIt hL3
        have V1 := hideIt v1
        have V2 := hideIt v2
        have V3 := hideIt v3
        clear hj v1 v2 v3 hpj hlen hS1 hS2 k1 k2 k3 k4 k5 k6 k7 k8 how how2 hL1 hL2 hL3
        go_wp2_with fail
        refine (implPartsJoin_any _ _ _ _ _ _ _ _ _ Hl1.out (by omega) (Rd.of_own hp1) Hl2.out (by omega) (Rd.of_own hq1)).mono ?_
        rw [Hj.out, Hpj.out, Hlen.out]
        rintro e w2 ⟨A2, c2, rfl, ho2, hb2⟩
        have b2 := b1.trans (hb2.mono b1.size)
        have hp2 := own_below hp1 hb2 (Nat.le_refl _)
        have hq2 := own_below hq1 hb2 (Nat.le_refl _)
        go_wp2_with fail
        refine (specPartsJoin_any _ _ _ _ _ _ _ _ _ Hl1.out (by omega) (Rd.of_own hp2) Hl2.out (by omega) (Rd.of_own hq2) (by omega)).mono ?_
        rw [Hj.out, Hpj.out, Hlen.out]
        rintro e w3 ⟨A3, c3, rfl, hw3, hb3⟩
        have b3 := b2.trans (hb3.mono b2.size)
        have hp3 := own_below hp2 hb3 (Nat.le_refl _)
        have hq3 := own_below hq2 hb3 (Nat.le_refl _)
        have ho3 := own_below ho2 hb3 (Nat.le_refl _)
        go_wp2_with fail
        refine (sameParts_any _ _ _ _ _ _ _ _ _ Hlen.out Hlen.out (by omega) (by omega) (Rd.of_own ho3) (Rd.of_own hw3)).mono ?_
        rw [decide_eq_true rfl]
        rintro e w4 ⟨rfl, hb4⟩
        have b4 := b3.trans (hb4.mono b3.size)
        have hp4 := own_below hp3 hb4 (Nat.le_refl _)
        have hq4 := own_below hq3 hb4 (Nat.le_refl _)
        have ho4 := own_below ho3 hb4 (Nat.le_refl _)
        clear hp1 hq1 hp2 hq2 hp3 hq3 ho2 ho3 hw3 hb2 hb3 hb4 b1 b2 b3
        go_wp2_with fail
        refine (implPartsMiles_any _ _ _ _ _ Hl1.out (by omega) (Rd.of_own hp4)).mono ?_
        rw [V1.out, partsMiles_t V1.out, miles_len]
        rintro e w5 ⟨X5, cx5, rfl, x5, hb5⟩
        have b5 := b4.trans (hb5.mono b4.size)
        have hp5 := own_below hp4 hb5 (Nat.le_refl _)
        have hq5 := own_below hq4 hb5 (Nat.le_refl _)
        have ho5 := own_below ho4 hb5 (Nat.le_refl _)
        go_wp2_with fail
        refine (implPartsMiles_any _ _ _ _ _ Hl2.out (by omega) (Rd.of_own hq5)).mono ?_
        rw [V2.out, partsMiles_t V2.out, miles_len]
        rintro e w6 ⟨Y6, cy6, rfl, y6, hb6⟩
        have b6 := b5.trans (hb6.mono b5.size)
        have hp6 := own_below hp5 hb6 (Nat.le_refl _)
        have hq6 := own_below hq5 hb6 (Nat.le_refl _)
        have ho6 := own_below ho5 hb6 (Nat.le_refl _)
        have x6 := own_below x5 hb6 (Nat.le_refl _)
        go_wp2_with fail
        refine (implPartsMiles_any _ _ _ _ _ Hlen.out (by omega) (Rd.of_own ho6)).mono ?_
        rw [V3.out, partsMiles_t V3.out, miles_len]
        rintro e w7 ⟨Z7, cz7, rfl, z7, hb7⟩
        have b7 := b6.trans (hb7.mono b6.size)
        have hp7 := own_below hp6 hb7 (Nat.le_refl _)
        have hq7 := own_below hq6 hb7 (Nat.le_refl _)
        have ho7 := own_below ho6 hb7 (Nat.le_refl _)
        have x7 := own_below x6 hb7 (Nat.le_refl _)
        have y7 := own_below y6 hb7 (Nat.le_refl _)
        clear hp4 hp5 hp6 hq4 hq5 hq6 ho4 ho5 ho6 x5 x6 y6 hb5 hb6 hb7 b4 b5 b6
        go_wp2_with fail
        refine (implPartsLength_any _ _ _ _ _ Hl1.out (by omega) (Rd.of_own hp7)).mono ?_
        rw [HL1.out]
        rintro e w8 ⟨rfl, hb8⟩
        have b8 := b7.trans (hb8.mono b7.size)
        have hq8 := own_below hq7 hb8 (Nat.le_refl _)
        have ho8 := own_below ho7 hb8 (Nat.le_refl _)
        have x8 := own_below x7 hb8 (Nat.le_refl _)
        have y8 := own_below y7 hb8 (Nat.le_refl _)
        have z8 := own_below z7 hb8 (Nat.le_refl _)
        go_wp2_with fail
        refine (implPartsLength_any _ _ _ _ _ Hl2.out (by omega) (Rd.of_own hq8)).mono ?_
        rw [HL2.out]
        rintro e w9 ⟨rfl, hb9⟩
        have b9 := b8.trans (hb9.mono b8.size)
        have hq9 := own_below hq8 hb9 (Nat.le_refl _)
        have ho9 := own_below ho8 hb9 (Nat.le_refl _)
        have x9 := own_below x8 hb9 (Nat.le_refl _)
        have y9 := own_below y8 hb9 (Nat.le_refl _)
        have z9 := own_below z8 hb9 (Nat.le_refl _)
        clear hp7 hq7 hq8 ho7 ho8 x7 x8 y7 y8 z7 z8 hb8 hb9 b7 b8
        go_wp2_with fail
        refine (implPartsOwner_any _ _ _ _ ((n' : Int) % S2) _ Hl2.out (by omega) (Rd.of_own hq9)).mono ?_
        rw [How.out]
        rintro e wa ⟨rfl, hba⟩
        have ba := b9.trans (hba.mono b9.size)
        have hqa := own_below hq9 hba (Nat.le_refl _)
        have hoa := own_below ho9 hba (Nat.le_refl _)
        have xa := own_below x9 hba (Nat.le_refl _)
        have ya := own_below y9 hba (Nat.le_refl _)
        have za := own_below z9 hba (Nat.le_refl _)
        go_wp2_with fail
        refine (implPartsOwner_any _ _ _ _ (S1 + (n' : Int) % S2) _ Hlen.out (by omega) (Rd.of_own hoa)).mono ?_
        rw [How2.out]
        rintro e wb ⟨rfl, hbb⟩
        have bb := ba.trans (hbb.mono ba.size)
        have hqb := own_below hqa hbb (Nat.le_refl _)
        have hob := own_below hoa hbb (Nat.le_refl _)
        have xb := own_below xa hbb (Nat.le_refl _)
        have yb := own_below ya hbb (Nat.le_refl _)
        have zb := own_below za hbb (Nat.le_refl _)
        clear hq9 hqa ho9 hoa x9 xa y9 ya z9 za hba hbb b9 ba
        obtain ⟨gx, rfl, _, hgx⟩ := own_some xb (by omega)
        obtain ⟨gy, rfl, _, hgy⟩ := own_some yb (by omega)
        obtain ⟨gz, rfl, _, hgz⟩ := own_some zb (by omega)
        have Bb := hideIt bb
        clear bb
        go_wp2_with fail
        have hob' := hideIt hob
        have hqb' := hideIt hqb
        clear hob hqb
        go_loopw [23] (fun i wr => ∃ k : Nat, k ≤ 6 ∧ i = .int .i64 k ∧ Below wb.heap.size wb wr) (fun i _ => 6 - (intOf i).toNat)
        case atStart => exact ⟨0, by omega, rfl, Below.refl _ _⟩
        case round =>
          obtain ⟨k, hk, rfl, hB⟩ := hrel
          by_cases hlt : k < 6
          · have ex : wr.cell? ⟨gx, k, none⟩ = some (.int .i64 (a1 (miles ps) k)) := (hB.cell (p := ⟨gx, k, none⟩) hgx).trans (row1_a xb (by rw [miles_len]; exact hlt))
            have ey : wr.cell? ⟨gy, k, none⟩ = some (.int .i64 (a1 (miles qs) k)) := (hB.cell (p := ⟨gy, k, none⟩) hgy).trans (row1_a yb (by rw [miles_len]; exact hlt))
            have ez : wr.cell? ⟨gz, k, none⟩ = some (.int .i64 (a1 (miles (ps ++ qs)) k)) := (hB.cell (p := ⟨gz, k, none⟩) hgz).trans (row1_a zb (by rw [miles_len]; exact hlt))
            obtain ⟨i1, i2⟩ := miles_in V1.out k (by rw [miles_len]; exact hlt)
            obtain ⟨i3, i4⟩ := miles_in V2.out k (by rw [miles_len]; exact hlt)
            have hne : (a1 (miles ps) k + a1 (miles qs) k != a1 (miles (ps ++ qs)) k) = false := by rw [miles_app k hlt]; simp
            clear xb yb zb
            go_wp2
            go_quiet (fail)
            go_wp2
            go_roundw
            case rel => exact ⟨k + 1, by omega, by go_num, below_drewN hB _⟩
            case measure => simp [intOf]; omega
          · obtain rfl : k = 6 := by omega
            clear xb yb zb
            go_wp2_with fail
            refine (implPartsLength_any _ _ _ _ _ Hlen.out (by omega) (Rd.of_own (own_below hob'.out hB (Nat.le_refl _)))).mono ?_
            rw [HL3.out]
            rintro e w9 ⟨rfl, hb9⟩
            have hB9 := hB.trans (hb9.mono hB.size)
            go_wp2_with fail
            refine (implPartsLength_any _ _ _ _ _ Hl2.out (by omega) (Rd.of_own (own_below hqb'.out hB9 (Nat.le_refl _)))).mono ?_
            rw [HL2.out]
            rintro e wc ⟨rfl, hbc⟩
            go_wp2
            go_ret
            exact ⟨ret_bool (by simp), Bb.out.trans ((hB9.trans (hbc.mono hB9.size)).mono Bb.out.size)⟩
    · go_enter Try.func12, Try.ntmps12
      go_wp2_with fail
      go_ret
      exact ⟨rfl, Below.refl _ _⟩
  · go_enter Try.func12, Try.ntmps12
    go_wp2_with fail
    go_ret
    exact ⟨rfl, Below.refl _ _⟩
end Go.Proofs.Ytingidljlfblnaa.fnPartsJoin

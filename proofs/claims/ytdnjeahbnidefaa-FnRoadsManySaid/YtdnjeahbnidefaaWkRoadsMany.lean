/- The walk of FnRoadsMany. -/
import Derived.Test.YtdnjeahbnidefaaDrRo2
import Derived.Test.YtdnjeahbnidefaaRoMn
import Derived.Test.YtdnjeahbnidefaaRoMc
import Derived.Test.YtdnjeahbnidefaaRo7
import Derived.Test.YtdnjeahbnidefaaMnLaw
namespace Go.Proofs.Ytdnjeahbnidefaa.fnRoadsMany
open Go.RowKit

set_option maxRecDepth 100000 in
set_option maxHeartbeats 4000000 in
theorem walk (A : Option Addr) (xs : List Int) (n c : Nat) (w : World) (hl : xs.length = n) (hm : n ≤ maxLen) (hc : n ≤ c) (hx : Bytes xs) (hr : Rd w A (flU xs)) :
    Calls Try.prog 6 #[.slice A n c] w (Ret w (.bool true)) := by
  unfold maxLen at hm
  by_cases hn : n ≤ 1048576
  rotate_left
  · go_enter Try.func6, Try.ntmps6
    go_wp2_with fail
    go_ret
    exact ⟨rfl, Below.refl _ _⟩
  go_enter Try.func6, Try.ntmps6
  go_wp2_with fail
  refine (DrawRoadsMany_any _ xs _ _ _ hl hn hc hx hr).mono ?_
  clear hl hr hx
  rintro e w1 ⟨k, rs, b, m, d, x, y, rfl, hk2, hk6, hl1, hm1, hin, ⟨x0, x1⟩, ⟨y0, y1⟩, ho1, hb1⟩
  have Hl1 := hideIt hl1
  clear hl1 hin
  have okx : IntOk x := by unfold IntOk; omega
  have oky : IntOk y := by unfold IntOk; omega
  have hr1 := Rd.of_own ho1
  clear ho1
  by_cases hneg : roadsFar k rs x y < 0
  · have Hm := hideIt (roadsMany_f hneg)
    clear hneg
    go_wp2_with fail
    refine (implRoadsMany_any _ _ _ _ _ _ _ _ Hl1.out (by omega) hr1 okx oky).mono ?_
    rw [Hm.out]
    rintro e w2 ⟨rfl, hb2⟩
    have b2 := hb1.trans (hb2.mono hb1.size)
    go_wp2_with fail
    refine (specRoadsMany_any _ _ _ _ _ _ _ _ Hl1.out (by omega) (hr1.below hb2 (Nat.le_refl _)) okx oky).mono ?_
    rw [Hm.out]
    rintro e w3 ⟨rfl, hb3⟩
    go_wp2
    go_ret
    exact ⟨rfl, b2.trans (hb3.mono b2.size)⟩
  obtain ⟨mm, s, t, hmm, rfl, rfl, hs, ht, hrv, hvv, hf⟩ := roadsFar_at (show 0 ≤ roadsFar k rs x y by omega)
  obtain rfl : k = mm := by omega
  have h0 : 0 ≤ dist k rs t s := by rw [hrv.dist_comm ht hs]; omega
  obtain ⟨u, hu⟩ : ∃ u, many k rs t s = u := ⟨_, rfl⟩
  have hu1 := hrv.many_in ht hs h0
  rw [hu] at hu1
  have Hm := hideIt (show roadsMany k rs s t = u by rw [roadsMany_t (by omega), hu])
  obtain ⟨u0, u1⟩ := hu1
  by_cases hst : s = t
  · subst hst
    have hu2 : u = 1 := by rw [← hu, many_end]
    subst hu2
    clear hu hneg hf h0 hrv hvv
    go_wp2_with fail
    refine (implRoadsMany_any _ _ _ _ _ _ _ _ Hl1.out (by omega) hr1 okx oky).mono ?_
    rw [Hm.out]
    rintro e w2 ⟨rfl, hb2⟩
    have b2 := hb1.trans (hb2.mono hb1.size)
    go_wp2_with fail
    refine (specRoadsMany_any _ _ _ _ _ _ _ _ Hl1.out (by omega) (hr1.below hb2 (Nat.le_refl _)) okx oky).mono ?_
    rw [Hm.out]
    rintro e w3 ⟨rfl, hb3⟩
    go_wp2
    go_ret
    exact ⟨rfl, b2.trans (hb3.mono b2.size)⟩
  have Hsum := hideIt (show sumTo (manyPart k rs s t) k = u by rw [hrv.many_parts hs ht h0 hst, hu])
  have hts : 0 ≤ dist k rs s t := by rw [hrv.dist_comm hs ht]; exact h0
  have Hback := hideIt (show roadsMany k rs t s = u by rw [roadsMany_t (by rw [roadsFar_in hvv ht hs]; exact h0), ← hrv.many_symm hs ht h0, hu])
  have Hin : Hid (∀ v, 0 ≤ sumTo (manyPart k rs s t) v ∧ sumTo (manyPart k rs s t) v ≤ 2097152 * v) := hideIt (fun v => hrv.parts_in hs ht h0 v)
  obtain ⟨F, hF⟩ : ∃ u, roadsFar k rs s t = u := ⟨_, rfl⟩
  have Hask : Hid (∀ v, v < k → ∃ p q : Int, direct k rs s v = p ∧ roadsFar k rs v t = q ∧ -1 ≤ p ∧ p ≤ 99 ∧ -1 ≤ q ∧ q ≤ 800 ∧ ((0 ≤ p ∧ 0 ≤ q ∧ p + q = F ∧ sumTo (manyPart k rs s t) (v + 1) = sumTo (manyPart k rs s t) v + many k rs t v ∧ roadsMany k rs v t = many k rs t v) ∨ (¬ (0 ≤ p ∧ 0 ≤ q ∧ p + q = F) ∧ sumTo (manyPart k rs s t) (v + 1) = sumTo (manyPart k rs s t) v))) := hideIt (fun v hv => by
    have hq : -1 ≤ roadsFar k rs v t ∧ roadsFar k rs v t ≤ 800 := by
      rw [roadsFar_in hvv hv ht]
      rcases hrv.dist_at hv ht with ⟨e, _⟩ | ⟨e1, e2, _⟩ <;> omega
    have hp : -1 ≤ direct k rs s v ∧ direct k rs s v ≤ 99 := by
      rw [direct, if_pos hvv]
      have := hrv.edge_le s v
      omega
    refine ⟨_, _, rfl, rfl, hp.1, hp.2, hq.1, hq.2, ?_⟩
    have hiff := hrv.nx_ask hs ht hv h0
    rw [hF] at hiff
    rw [sumTo, manyPart]
    by_cases c : nx k rs t s v = true
    · obtain ⟨g1, g2, g3⟩ := hiff.1 c
      exact .inl ⟨g1, g2, g3, by rw [if_pos c], roadsMany_t g2⟩
    · exact .inr ⟨fun q => c (hiff.2 q), by rw [if_neg c]; omega⟩)
  have hF1 : 0 ≤ F ∧ F ≤ 800 := by
    rw [← hF, hf]
    rcases hrv.dist_at hs ht with ⟨e, _⟩ | ⟨e1, e2, _⟩ <;> omega
  obtain ⟨f0, f1⟩ := hF1
  have HF := hideIt hF
  have hsti : ((s : Int) == (t : Int)) = false := by simp; omega
  have hstn : ¬ (s : Int) = (t : Int) := by omega
  clear hu hneg hf h0 hrv hvv hF hts hst
  go_wp2_with fail
  refine (implRoadsMany_any _ _ _ _ _ _ _ _ Hl1.out (by omega) hr1 okx oky).mono ?_
  rw [Hm.out]
  rintro e w2 ⟨rfl, hb2⟩
  have b2 := hb1.trans (hb2.mono hb1.size)
  have hr2 := hr1.below hb2 (Nat.le_refl _)
  clear hb1 hb2 hr1
  go_wp2_with fail
  refine (specRoadsMany_any _ _ _ _ _ _ _ _ Hl1.out (by omega) hr2 okx oky).mono ?_
  rw [Hm.out]
  rintro e w3 ⟨rfl, hb3⟩
  have b3 := b2.trans (hb3.mono b2.size)
  have hr3 := hr2.below hb3 (Nat.le_refl _)
  clear b2 hb3 hr2
  go_wp2_with fail
  refine (implRoadsFar_any _ _ _ _ _ _ _ _ Hl1.out (by omega) hr3 okx oky).mono ?_
  rw [HF.out]
  rintro e w4 ⟨rfl, hb4⟩
  have b4 := b3.trans (hb4.mono b3.size)
  have hr4 := hr3.below hb4 (Nat.le_refl _)
  clear b3 hb4 hr3
  go_wp2
  go_loopw [9, 11] (fun z i wr => ∃ (v : Nat) (zz : Int), v ≤ k ∧ i = .int .i64 v ∧ z = .int .i64 zz ∧ Hid (zz = sumTo (manyPart k rs s t) v) ∧ 0 ≤ zz ∧ zz ≤ 2097152 * v ∧ Below w4.heap.size w4 wr) (fun _ i _ => k - (intOf i).toNat)
  case atStart => exact ⟨0, 0, by omega, rfl, rfl, hideIt rfl, by omega, by omega, Below.refl _ _⟩
  case round =>
    obtain ⟨v, z, hvn, rfl, rfl, Hz, z0, z1, bd⟩ := hrel
    by_cases hlt : v < k
    · obtain ⟨p, q, e1, e2, p0, p1, q0, q1, hcase⟩ := Hask.out v hlt
      have Hp := hideIt e1
      have Hq := hideIt e2
      have okv : IntOk (v : Int) := by unfold IntOk; omega
      have hin := Hin.out (v + 1)
      clear e1 e2
      rcases hcase with ⟨c0, c1, c2, c3, c4⟩ | ⟨c0, c3⟩
      · obtain ⟨g, hg⟩ : ∃ g, many k rs t v = g := ⟨_, rfl⟩
        rw [hg] at c3 c4
        rw [c3, ← Hz.out] at hin
        have Hg := hideIt c4
        have HZ := hideIt (show z + g = sumTo (manyPart k rs s t) (v + 1) by rw [c3, ← Hz.out])
        have hpq : IntKind.i64.wrap (p + q) = F := by rw [← c2]; exact IntWalk.i64_in _ (by omega)
        have hzg : IntKind.i64.wrap (z + g) = z + g := IntWalk.i64_in _ (by omega)
        clear c2 c3 c4 hg
        go_wp2_with fail
        refine (implRoadsDirect_any _ _ _ _ _ _ _ _ Hl1.out (by omega) (hr4.below bd (Nat.le_refl _)) okx okv).mono ?_
        rw [Hp.out]
        rintro e w5 ⟨rfl, hb5⟩
        have b5 := bd.trans (hb5.mono bd.size)
        clear bd hb5
        go_wp2_with fail
        refine (implRoadsFar_any _ _ _ _ _ _ _ _ Hl1.out (by omega) (hr4.below b5 (Nat.le_refl _)) okv oky).mono ?_
        rw [Hq.out]
        rintro e w6 ⟨rfl, hb6⟩
        have b6 := b5.trans (hb6.mono b5.size)
        clear b5 hb6
        go_wp2_with fail
        refine (implRoadsMany_any _ _ _ _ _ _ _ _ Hl1.out (by omega) (hr4.below b6 (Nat.le_refl _)) okv oky).mono ?_
        rw [Hg.out]
        rintro e w7 ⟨rfl, hb7⟩
        have b7 := b6.trans (hb7.mono b6.size)
        clear b6 hb7
        go_wp2
        go_roundw
        case rel => exact ⟨v + 1, z + g, by omega, by go_num, by go_num, HZ, by omega, by omega, b7⟩
        case measure => simp [intOf]; omega
      · have HZ := hideIt (show z = sumTo (manyPart k rs s t) (v + 1) by rw [c3, ← Hz.out])
        have hpq : IntKind.i64.wrap (p + q) = p + q := IntWalk.i64_in _ (by omega)
        clear c3
        go_wp2_with fail
        refine (implRoadsDirect_any _ _ _ _ _ _ _ _ Hl1.out (by omega) (hr4.below bd (Nat.le_refl _)) okx okv).mono ?_
        rw [Hp.out]
        rintro e w5 ⟨rfl, hb5⟩
        have b5 := bd.trans (hb5.mono bd.size)
        clear bd hb5
        go_wp2_with fail
        refine (implRoadsFar_any _ _ _ _ _ _ _ _ Hl1.out (by omega) (hr4.below b5 (Nat.le_refl _)) okv oky).mono ?_
        rw [Hq.out]
        rintro e w6 ⟨rfl, hb6⟩
        have b6 := b5.trans (hb6.mono b5.size)
        clear b5 hb6
        by_cases hp0 : 0 ≤ p
        · by_cases hq0 : 0 ≤ q
          · have hne : ((p + q) == F) = false := by simp; omega
            have hne2 : ¬ (p + q = F) := by omega
            go_wp2
            go_roundw
            case rel => exact ⟨v + 1, z, by omega, by go_num, rfl, HZ, by omega, by omega, b6⟩
            case measure => simp [intOf]; omega
          · go_wp2
            go_roundw
            case rel => exact ⟨v + 1, z, by omega, by go_num, rfl, HZ, by omega, by omega, b6⟩
            case measure => simp [intOf]; omega
        · go_wp2
          go_roundw
          case rel => exact ⟨v + 1, z, by omega, by go_num, rfl, HZ, by omega, by omega, b6⟩
          case measure => simp [intOf]; omega
    · obtain rfl : v = k := by omega
      obtain rfl : z = u := by rw [Hz.out, Hsum.out]
      go_wp2_with fail
      refine (implRoadsMany_any _ _ _ _ _ _ _ _ Hl1.out (by omega) (hr4.below bd (Nat.le_refl _)) oky okx).mono ?_
      rw [Hback.out]
      rintro e w5 ⟨rfl, hb5⟩
      have b5 := bd.trans (hb5.mono bd.size)
      go_wp2
      go_ret
      exact ⟨by simp, b4.trans (b5.mono b4.size)⟩
end Go.Proofs.Ytdnjeahbnidefaa.fnRoadsMany

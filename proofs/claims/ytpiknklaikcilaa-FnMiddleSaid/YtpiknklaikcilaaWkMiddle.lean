/- The walk of FnMiddle. -/
import Derived.Test.YtpiknklaikcilaaDrWh
import Derived.Test.YtpiknklaikcilaaRoMid
namespace Go.Proofs.Ytpiknklaikcilaa.fnMiddle
open Go.RowKit

theorem mid_law {n : Nat} {rs : List (Int × Int × Int)} (h : RV n rs) (hc : AllCn (eN rs) n) {a b : Nat} (ha : a < n) (hb : b < n) :
    midTo n rs n < n ∧ (0 ≤ dist n rs a b ∧ dist n rs a b ≤ 2 * most n rs (midTo n rs n)) ∧ most n rs (midTo n rs n) ≤ most n rs a ∧ (a < midTo n rs n → most n rs (midTo n rs n) < most n rs a) := by
  have hm := midTo_lt rs h.n1 n (Nat.le_refl _)
  have h1 := h.all_dist hc ha hb
  have h2 := h.all_dist hc ha hm
  have h3 := h.all_dist hc hm hb
  have h4 := (h.most_at hc hm).2.2.1
  have tri := (h.dist_is ha hm h2.1).tri (h.dist_is hm hb h3.1) (h.dist_is ha hb h1.1)
  have hcm := h.dist_comm ha hm
  have := h4 a ha
  have := h4 b hb
  have hbest := (midTo_best (n := n) (rs := rs) n).1 a ha
  exact ⟨hm, ⟨h1.1, by omega⟩, hbest.1, hbest.2⟩

set_option maxRecDepth 100000 in
set_option maxHeartbeats 4000000 in
theorem walk (A : Option Addr) (xs : List Int) (n c : Nat) (w : World) (hl : xs.length = n) (hm : n ≤ maxLen) (hc : n ≤ c) (hx : Bytes xs) (hr : Rd w A (flU xs)) :
    Calls Try.prog 14 #[.slice A n c] w (Ret w (.bool true)) := by
  unfold maxLen at hm
  by_cases hn : n ≤ 1048576
  rotate_left
  · go_enter Try.func14, Try.ntmps14
    go_wp2_with fail
    go_ret
    exact ⟨rfl, Below.refl _ _⟩
  go_enter Try.func14, Try.ntmps14
  go_wp2_with fail
  refine (DrawRoadsMiddle_any _ xs _ _ _ hl hn hc hx hr).mono ?_
  clear hl hr hx
  rintro e w1 ⟨k, rs, b, m, d, rfl, hk2, hk6, hl1, hm1, ho1, hb1⟩
  have Hl1 := hideIt hl1
  clear hl1
  cases hw : whole k rs
  · have Hm := hideIt (midEnd_f hw)
    clear hw
    go_wp2_with fail
    refine (implRoadsMiddle_any _ _ _ _ _ _ Hl1.out (by omega) (Rd.of_own ho1)).mono ?_
    rw [Hm.out]
    rintro e w2 ⟨rfl, hb2⟩
    have b2 := hb1.trans (hb2.mono hb1.size)
    go_wp2_with fail
    refine (specRoadsMiddle_any _ _ _ _ _ _ Hl1.out (by omega) ((Rd.of_own ho1).below hb2 (Nat.le_refl _))).mono ?_
    rw [Hm.out]
    rintro e w3 ⟨rfl, hb3⟩
    go_wp2
    go_ret
    exact ⟨rfl, b2.trans (hb3.mono b2.size)⟩
  obtain ⟨kk, hkk, hrv, hcn⟩ := whole_t hw
  obtain rfl : k = kk := by omega
  have hvv := roadsValid_of hrv
  have hme := midEnd_t hw
  have Hlaw : Hid (∀ a b, a < k → b < k → midTo k rs k < k ∧ (0 ≤ dist k rs a b ∧ dist k rs a b ≤ 2 * most k rs (midTo k rs k)) ∧ most k rs (midTo k rs k) ≤ most k rs a ∧ (a < midTo k rs k → most k rs (midTo k rs k) < most k rs a)) := hideIt (fun a b ha hb => mid_law hrv hcn ha hb)
  have Hat : Hid (∀ a v, a < k → v < k → a1 (farList k rs a) v = dist k rs a v ∧ roadsFar k rs a v = dist k rs a v) := hideIt (fun a v ha hv => ⟨(hrv.all_dist hcn ha hv).2.2, roadsFar_in hvv ha hv⟩)
  have Htop : Hid (∀ a, a < k → 0 ≤ most k rs a ∧ most k rs a ≤ 800) := hideIt (fun a ha => ⟨(hrv.most_at hcn ha).1, (hrv.most_at hcn ha).2.1⟩)
  have hmk := midTo_lt rs (show 1 ≤ k by omega) k (Nat.le_refl _)
  obtain ⟨G0, G8⟩ := Htop.out _ hmk
  obtain ⟨mid, hmid⟩ : ∃ q, midTo k rs k = q := ⟨_, rfl⟩
  rw [hmid] at hme hmk G0 G8
  obtain ⟨G, hG⟩ : ∃ q, most k rs mid = q := ⟨_, rfl⟩
  rw [hG] at hme G0 G8
  have Hmid := hideIt hmid
  have HG := hideIt hG
  have Hm := hideIt hme
  clear hw hkk hrv hcn hvv hme hmid hG
  go_wp2_with fail
  refine (implRoadsMiddle_any _ _ _ _ _ _ Hl1.out (by omega) (Rd.of_own ho1)).mono ?_
  rw [Hm.out]
  rintro e w2 ⟨rfl, hb2⟩
  have b2 := hb1.trans (hb2.mono hb1.size)
  have ho2 := own_below ho1 hb2 (Nat.le_refl _)
  clear ho1 hb2 hb1
  go_wp2_with fail
  refine (specRoadsMiddle_any _ _ _ _ _ _ Hl1.out (by omega) (Rd.of_own ho2)).mono ?_
  rw [Hm.out]
  rintro e w3 ⟨rfl, hb3⟩
  have b3 := b2.trans (hb3.mono b2.size)
  have hr3 := Rd.of_own (own_below ho2 hb3 (Nat.le_refl _))
  clear ho2 hb3 b2
  go_wp2
  go_loopw [11] (fun i wr => ∃ a : Nat, a ≤ k ∧ i = .int .i64 a ∧ Below w3.heap.size w3 wr) (fun i _ => k - (intOf i).toNat)
  case atStart => exact ⟨0, by omega, rfl, Below.refl _ _⟩
  case round =>
    obtain ⟨a, ha, rfl, hbw⟩ := hrel
    by_cases hlt : a < k
    · go_wp2
      go_loopw [12, 13] (fun s i wv => ∃ (j : Nat) (z : Int), j ≤ k ∧ i = .int .i64 j ∧ s = .int .i64 z ∧ Hid (z = topTo (farList k rs a) j) ∧ 0 ≤ z ∧ z ≤ 1600 ∧ Below w3.heap.size w3 wv) (fun _ i _ => k - (intOf i).toNat)
      case atStart => exact ⟨0, 0, by omega, rfl, rfl, hideIt rfl, by omega, by omega, hbw⟩
      case round =>
        obtain ⟨j, z, hj, rfl, rfl, Hz, z0, z1, hbv⟩ := hrel
        by_cases hjk : j < k
        · obtain ⟨_, ⟨d0, d2⟩, _⟩ := Hlaw.out a j hlt hjk
          obtain ⟨e1, e2⟩ := Hat.out a j hlt hjk
          obtain ⟨x, hx⟩ : ∃ x, dist k rs a j = x := ⟨_, rfl⟩
          rw [Hmid.out, HG.out, hx] at d2
          rw [hx] at d0 e1 e2
          have He1 := hideIt e1
          have He2 := hideIt e2
          have hw2 : IntKind.i64.wrap (2 * G) = 2 * G := IntWalk.i64_in _ (by omega)
          have oka : IntOk (a : Int) := by unfold IntOk; omega
          have okj : IntOk (j : Int) := by unfold IntOk; omega
          clear e1 e2 hx
          go_wp2_with fail
          refine (implRoadsFar_any _ _ _ _ _ _ _ _ Hl1.out (by omega) (hr3.below hbv (Nat.le_refl _)) oka okj).mono ?_
          rw [He2.out]
          rintro e w4 ⟨rfl, hb4⟩
          have b4 := hbv.trans (hb4.mono hbv.size)
          rcases Int.lt_trichotomy z x with hc | hc | hc
          · go_wp2
            go_roundw
            case rel => exact ⟨j + 1, x, by omega, by go_num, rfl, hideIt (by rw [topTo, ← Hz.out, He1.out]; omega), by omega, by omega, b4⟩
            case measure => simp [intOf]; omega
          · subst hc
            go_wp2
            go_roundw
            case rel => exact ⟨j + 1, z, by omega, by go_num, rfl, hideIt (by rw [topTo, ← Hz.out, He1.out]; omega), by omega, by omega, b4⟩
            case measure => simp [intOf]; omega
          · go_wp2
            go_roundw
            case rel => exact ⟨j + 1, z, by omega, by go_num, rfl, hideIt (by rw [topTo, ← Hz.out, He1.out]; omega), by omega, by omega, b4⟩
            case measure => simp [intOf]; omega
        · obtain rfl : j = k := by omega
          have hzm : z = most j rs a := Hz.out
          obtain ⟨_, _, g1, g2⟩ := Hlaw.out a a hlt hlt
          rw [Hmid.out, HG.out, ← hzm] at g1 g2
          have HG2 := hideIt (fun (e : a = mid) => show z = G by rw [hzm, e, HG.out])
          clear hzm
          rcases Nat.lt_trichotomy a mid with hc | hc | hc
          · have h1 := g2 hc
            have h2 : ¬ z < G := by omega
            have h3 : (z == G) = false := by simp; omega
            have h4 : ((a : Int) == (mid : Int)) = false := by simp; omega
            clear g2
            go_wp2
            go_roundw
            case rel => exact ⟨a + 1, by omega, by go_num, hbv⟩
            case measure => simp [intOf]; omega
          · have h1 := HG2.out hc
            subst hc
            subst h1
            clear g2 HG2
            go_wp2
            go_roundw
            case rel => exact ⟨a + 1, by omega, by go_num, hbv⟩
            case measure => simp [intOf]; omega
          · have h2 : ¬ z < G := by omega
            have h4 : ((a : Int) == (mid : Int)) = false := by simp; omega
            have h5 : ¬ (a : Int) < (mid : Int) := by omega
            clear g2
            by_cases hzG : z = G
            · subst hzG
              go_wp2
              go_roundw
              case rel => exact ⟨a + 1, by omega, by go_num, hbv⟩
              case measure => simp [intOf]; omega
            · have h3 : (z == G) = false := by simpa using hzG
              clear hzG
              go_wp2
              go_roundw
              case rel => exact ⟨a + 1, by omega, by go_num, hbv⟩
              case measure => simp [intOf]; omega
    · obtain rfl : a = k := by omega
      go_wp2
      go_ret
      exact ⟨rfl, b3.trans (hbw.mono b3.size)⟩
end Go.Proofs.Ytpiknklaikcilaa.fnMiddle

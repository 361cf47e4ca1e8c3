/- Walks: RoadsMiddle of the reference and of the program. -/
import Derived.Test.YtpiknklaikcilaaRoWh
namespace Go.Proofs.Ytpiknklaikcilaa
open Go.RowKit

/-- what RoadsMiddle returns -/
def midEnd (n : Int) (rs : List (Int × Int × Int)) : Value :=
  if whole n rs = true then .tuple #[.int .i64 (midTo n.toNat rs n.toNat), .int .i64 (most n.toNat rs (midTo n.toNat rs n.toNat)), .bool true] else .tuple #[.int .i64 0, .int .i64 0, .bool false]
theorem midEnd_f {n : Int} {rs : List (Int × Int × Int)} (h : whole n rs = false) : midEnd n rs = .tuple #[.int .i64 0, .int .i64 0, .bool false] := by rw [midEnd, h]; rfl
theorem midEnd_t {n : Nat} {rs : List (Int × Int × Int)} (h : whole n rs = true) : midEnd n rs = .tuple #[.int .i64 (midTo n rs n), .int .i64 (most n rs (midTo n rs n)), .bool true] := by rw [midEnd, h]; rfl
set_option maxRecDepth 100000 in
set_option maxHeartbeats 1000000 in
theorem specRoadsMiddle_any (n : Int) (A : Option Addr) (rs : List (Int × Int × Int)) (m cap : Nat) (w : World) (hl : rs.length = m) (hm : m ≤ 1048576) (hr : Rd w A (fl3 rs)) :
    Calls Try.prog 51 #[.int .i64 n, .slice A m cap] w (Ret w (midEnd n rs)) := by
  have Hl := hideIt hl
  clear hl
  cases hw : whole n rs
  · have Hw := hideIt hw
    rw [midEnd_f hw]
    clear hw
    go_enter Try.func51, Try.ntmps51
    go_wp2_with fail
    refine (specRoadsWhole_any _ _ _ _ _ _ _ Hl.out hm hr Hw.out).mono ?_
    rintro e w1 ⟨rfl, hb1⟩
    go_wp2
    go_ret3
    exact ⟨rfl, hb1⟩
  obtain ⟨nn, rfl, hrv, hc⟩ := whole_t hw
  have Hw := hideIt hw
  have Hrv : Hid (RV nn rs) := hideIt hrv
  have n8 := hrv.n8
  have n1 := hrv.n1
  rw [midEnd_t hw]
  have Hin : Hid (∀ a, a < nn → 0 ≤ most nn rs a ∧ most nn rs a ≤ 100000) := hideIt (fun a ha => hrv.most_in ha)
  have Hlt : Hid (∀ k, k ≤ nn → midTo nn rs k < nn) := hideIt (midTo_lt rs n1)
  clear hw hrv hc
  go_enter Try.func51, Try.ntmps51
  go_wp2_with fail
  refine (specRoadsWhole_any _ _ _ _ _ _ _ Hl.out hm hr Hw.out).mono ?_
  rintro e w1 ⟨rfl, hb1⟩
  go_wp2
  go_loopw [7, 8] (fun s i wr => ∃ (k q : Nat), k ≤ nn ∧ q < nn ∧ i = .int .i64 k ∧ s = .int .i64 q ∧ Hid (q = midTo nn rs k) ∧ Below w.heap.size w wr) (fun _ i _ => nn - (intOf i).toNat)
  case atStart => exact ⟨0, 0, by omega, by omega, rfl, rfl, hideIt rfl, hb1⟩
  case round =>
    obtain ⟨k, q, hk, hq, rfl, rfl, Hq, hbw⟩ := hrel
    by_cases hlt : k < nn
    · obtain ⟨x, hx⟩ : ∃ x, most nn rs k = x := ⟨_, rfl⟩
      obtain ⟨y, hy⟩ : ∃ y, most nn rs q = y := ⟨_, rfl⟩
      have Hx := hideIt hx
      have Hy := hideIt hy
      clear hx hy
      go_wp2_with fail
      refine (l1Most_any _ _ _ _ _ _ _ Hl.out (hr.below hbw (Nat.le_refl _)) Hrv.out hlt).mono ?_
      rw [Hx.out]
      rintro e w2 ⟨rfl, hb2⟩
      have b2 := hbw.trans (hb2.mono hbw.size)
      go_wp2_with fail
      refine (l1Most_any _ _ _ _ _ _ _ Hl.out (hr.below b2 (Nat.le_refl _)) Hrv.out hq).mono ?_
      rw [Hy.out]
      rintro e w3 ⟨rfl, hb3⟩
      have b3 := b2.trans (hb3.mono b2.size)
      by_cases hc : x < y
      · have Hn := hideIt (show k = midTo nn rs (k + 1) by rw [midTo, ← Hq.out, Hx.out, Hy.out, if_pos hc])
        go_wp2
        go_roundw
        case rel => exact ⟨k + 1, k, by omega, by omega, by go_num, rfl, Hn, b3⟩
        case measure => simp [intOf]; omega
      · have Hn := hideIt (show q = midTo nn rs (k + 1) by rw [midTo, ← Hq.out, Hx.out, Hy.out, if_neg hc])
        go_wp2
        go_roundw
        case rel => exact ⟨k + 1, q, by omega, by omega, by go_num, rfl, Hn, b3⟩
        case measure => simp [intOf]; omega
    · obtain rfl : k = nn := by omega
      obtain ⟨y, hy⟩ : ∃ y, most k rs q = y := ⟨_, rfl⟩
      have Hy := hideIt hy
      clear hy
      go_wp2_with fail
      refine (l1Most_any _ _ _ _ _ _ _ Hl.out (hr.below hbw (Nat.le_refl _)) Hrv.out hq).mono ?_
      rw [Hy.out]
      rintro e w3 ⟨rfl, hb3⟩
      have b3 := hbw.trans (hb3.mono hbw.size)
      go_wp2
      go_ret3
      rw [← Hq.out, Hy.out]
      exact ⟨rfl, b3⟩
set_option maxRecDepth 100000 in
set_option maxHeartbeats 1000000 in
theorem implRoadsMiddle_any (n : Int) (A : Option Addr) (rs : List (Int × Int × Int)) (m cap : Nat) (w : World) (hl : rs.length = m) (hm : m ≤ 1048576) (hr : Rd w A (fl3 rs)) :
    Calls Try.prog 50 #[.int .i64 n, .slice A m cap] w (Ret w (midEnd n rs)) := by
  have Hl := hideIt hl
  clear hl
  cases hw : whole n rs
  · have Hw := hideIt hw
    rw [midEnd_f hw]
    clear hw
    go_enter Try.func50, Try.ntmps50
    go_wp2_with fail
    refine (implRoadsWhole_any _ _ _ _ _ _ _ Hl.out hm hr Hw.out).mono ?_
    rintro e w1 ⟨rfl, hb1⟩
    go_wp2
    go_ret3
    exact ⟨rfl, hb1⟩
  obtain ⟨nn, rfl, hrv, hc⟩ := whole_t hw
  have Hw := hideIt hw
  have Hv := hideIt (roadsValid_of hrv)
  have Hrv : Hid (RV nn rs) := hideIt hrv
  have n8 := hrv.n8
  have n1 := hrv.n1
  rw [midEnd_t hw]
  have Hall : Hid (∀ a v, a < nn → v < nn → 0 ≤ dist nn rs a v ∧ dist nn rs a v ≤ 800) := hideIt (fun a v ha hv => ⟨(hrv.all_dist hc ha hv).1, (hrv.all_dist hc ha hv).2.1⟩)
  have Hmost : Hid (∀ a, a < nn → 0 ≤ most nn rs a ∧ most nn rs a ≤ 800 ∧ (∀ v, v < nn → dist nn rs a v ≤ most nn rs a) ∧ ∀ B : Int, 0 ≤ B → (∀ v, v < nn → dist nn rs a v ≤ B) → most nn rs a ≤ B) := hideIt (fun a ha => hrv.most_at hc ha)
  have Hlt : Hid (∀ k, k ≤ nn → midTo nn rs k < nn) := hideIt (midTo_lt rs n1)
  clear hw hrv hc
  go_enter Try.func50, Try.ntmps50
  go_wp2_with fail
  refine (implRoadsWhole_any _ _ _ _ _ _ _ Hl.out hm hr Hw.out).mono ?_
  rintro e w1 ⟨rfl, hb1⟩
  go_wp2_with fail
  refine (mapRoads_any _ _ _ _ _ _ _ Hl.out hm (hr.below hb1 (Nat.le_refl _)) Hv.out).mono ?_
  rintro e w2 ⟨v, rfl, hb2, hmk⟩
  obtain ⟨bm, m', g, hm', rfl, hmap⟩ := hmk rfl
  obtain rfl : nn = m' := by omega
  have b2 := hb1.trans (hb2.mono hb1.size)
  clear hmk hm' hb1 hb2
  go_wp2
  go_loopw [9, 10, 26] (fun s t i wr => ∃ (k q : Nat) (z : Int), k ≤ nn ∧ q < nn ∧ i = .int .i64 k ∧ s = .int .i64 q ∧ t = .int .i64 z ∧ Hid (q = midTo nn rs k) ∧ Hid (k = 0 ∨ z = most nn rs q) ∧ Below w2.heap.size w2 wr) (fun _ _ i _ => nn - (intOf i).toNat)
  case atStart => exact ⟨0, 0, 0, by omega, by omega, rfl, rfl, rfl, hideIt rfl, hideIt (.inl rfl), Below.refl _ _⟩
  case round =>
    obtain ⟨k, q, z, hk, hq, rfl, rfl, rfl, Hq, Hz, hbw⟩ := hrel
    by_cases hlt : k < nn
    · have hmw := hmap.below hbw (Nat.le_refl _)
      go_wp2_with fail
      refine (distances_any _ _ _ _ _ _ _ Hrv.out hlt hmw).mono ?_
      rintro e w3 ⟨fb, rfl, hfb, him, hb3⟩
      have b3 := hbw.trans (hb3.mono hbw.size)
      clear hmw
      have hst := him.size_le
      obtain ⟨st, hste⟩ : ∃ st, reach nn rs k = st := ⟨_, rfl⟩
      rw [hste] at him hst
      obtain ⟨M, hM⟩ : ∃ M, most nn rs k = M := ⟨_, rfl⟩
      have hmk := Hmost.out k hlt
      rw [hM] at hmk
      obtain ⟨M0, M8, Mall, Mle⟩ := hmk
      have HM := hideIt hM
      have HMall := hideIt Mall
      have HMle := hideIt Mle
      clear hste hM Mall Mle hb3
      go_wp2_with (at_range; refine wpList_rangeIM _ rfl (.tmp 31) rfl rfl him ?_; intro w4 hrg hg4 hs4)
      have b4 := b3.grown hg4 b3.size (fun j hj => by cases hj)
      have hrb : w2.heap.size ≤ w3.heap.size := b3.size
      clear hg4 hs4 him b3 hbw
      go_frame
      go_loopg [12] st (fun c s wv => ∃ (y : Int) (left : Int → Bool), s = .int .i64 y ∧ 0 ≤ y ∧ y ≤ M ∧ RG wv fb w3.heap.size (farF nn rs k) left c ∧ Hid (∀ v : Nat, v < nn → left v = false → dist nn rs k v ≤ y) ∧ Below w2.heap.size w2 wv)
      case atStart => exact ⟨0, _, rfl, by omega, by omega, hrg, hideIt (fun v hv h => by
        have h1 := (Hall.out k v hlt hv).1
        rw [← farF_in rs k hv] at h1
        rw [decide_eq_true h1] at h
        cases h), b4⟩
      case round =>
        obtain ⟨y, left, rfl, y0, y1, hrg2, Hdone, hbv⟩ := hrel
        go_wp2_with (at_next; refine wpList_nextIM _ rfl (.tmp 32) rfl rfl hrg2 ?_ ?_)
        · intro hc0 hl0
          have Hy := hideIt (show y = M by
            have := HMle.out y y0 (fun v hv => Hdone.out v hv (hl0 _ (by unfold IntOk; omega)))
            omega)
          have Hl0 := hideIt hl0
          clear hl0 hrg2 hrg b4
          by_cases hk0 : k = 0
          · subst hk0
            have Hn := hideIt (show 0 = midTo nn rs (0 + 1) by rw [midTo, midTo]; split <;> rfl)
            go_wp2
            go_roundw
            case rel => exact ⟨1, 0, y, by omega, by omega, rfl, rfl, rfl, Hn, hideIt (.inr (by rw [HM.out, Hy.out])), hbv⟩
            case measure => simp [intOf]; omega
          · have Hz2 := hideIt (show z = most nn rs q by rcases Hz.out with h | h <;> omega)
            have hk1 : ((k : Int) == 0) = false := by simpa using hk0
            by_cases hc : y < z
            · have Hn := hideIt (show k = midTo nn rs (k + 1) by rw [midTo, ← Hq.out, ← Hz2.out, HM.out, ← Hy.out, if_pos hc])
              go_wp2
              go_roundw
              case rel => exact ⟨k + 1, k, y, by omega, by omega, by go_num, rfl, rfl, Hn, hideIt (.inr (by rw [HM.out, Hy.out])), hbv⟩
              case measure => simp [intOf]; omega
            · have Hn := hideIt (show q = midTo nn rs (k + 1) by rw [midTo, ← Hq.out, ← Hz2.out, HM.out, ← Hy.out, if_neg hc])
              go_wp2
              go_roundw
              case rel => exact ⟨k + 1, q, z, by omega, by omega, by go_num, rfl, rfl, Hn, hideIt (.inr Hz2.out), hbv⟩
              case measure => simp [intOf]; omega
        · intro x w5 cnt1 okx hlx hfx okfx hrg1 hcl hg5 hs5 hen
          have hxn : 0 ≤ x ∧ x < nn := by
            unfold farF at hfx
            split at hfx
            · assumption
            · omega
          obtain ⟨hx0, hx1⟩ := hxn
          obtain ⟨xv, rfl⟩ := Int.eq_ofNat_of_zero_le hx0
          have hxv : xv < nn := by omega
          have hfd := farF_in rs k hxv
          obtain ⟨d, hd⟩ : ∃ d, farF nn rs k (xv : Int) = d := ⟨_, rfl⟩
          have hdM : d ≤ M := by rw [← hd, hfd]; exact HMall.out xv hxv
          have Hd := hideIt (show dist nn rs k xv = d by rw [← hfd, hd])
          rw [hd] at hen hfx
          have b5 := hbv.grown hg5 hbv.size (fun j hj => by cases hj; exact hrb)
          have Hnew := fun (u : Int) (hu1 : y ≤ u) (hu2 : d ≤ u) => hideIt (show ∀ v : Nat, v < nn → (left v && !decide ((v : Int) = xv)) = false → dist nn rs k v ≤ u from fun v hv h => by
            by_cases e : v = xv
            · subst e; rw [Hd.out]; exact hu2
            · rw [decide_eq_false (fun h => e (by omega))] at h
              simp only [Bool.not_false, Bool.and_true] at h
              exact Int.le_trans (Hdone.out v hv h) hu1)
          have hM63 : M ≤ 800 := M8
          clear hfd hg5 hs5 hrg2 okfx hlx
          rw [hd]
          clear hd
          rcases Int.lt_trichotomy y d with hc | hc | hc
          · go_wp2
            go_roundg cnt1
            case measure => exact hcl
            case rel => exact ⟨d, _, rfl, by omega, hdM, hrg1, Hnew d (by omega) (by omega), b5⟩
          · subst hc
            go_wp2
            go_roundg cnt1
            case measure => exact hcl
            case rel => exact ⟨y, _, rfl, y0, y1, hrg1, Hnew y (by omega) (by omega), b5⟩
          · go_wp2
            go_roundg cnt1
            case measure => exact hcl
            case rel => exact ⟨y, _, rfl, y0, y1, hrg1, Hnew y (by omega) (by omega), b5⟩
    · obtain rfl : k = nn := by omega
      have Hzz := hideIt (show z = most k rs q by rcases Hz.out with h | h <;> omega)
      go_wp2
      go_ret3
      rw [← Hq.out, ← Hzz.out]
      exact ⟨rfl, b2.trans (hbw.mono b2.size)⟩
end Go.Proofs.Ytpiknklaikcilaa

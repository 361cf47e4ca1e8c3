/- Walks: l1Most, RoadsWhole of the reference and of the program. -/
import Derived.Test.YtdnjeahbnidefaaRoWhole
import Derived.Test.YtdnjeahbnidefaaRo7
namespace Go.Proofs.Ytdnjeahbnidefaa
open Go.RowKit

set_option maxRecDepth 100000 in
set_option maxHeartbeats 1000000 in
theorem l1Most_any (n : Nat) (A : Option Addr) (rs : List (Int × Int × Int)) (m cap a : Nat) (w : World) (hl : rs.length = m) (hr : Rd w A (fl3 rs)) (hv : RV n rs) (ha : a < n) :
    Calls Try.prog 50 #[.int .i64 n, .slice A m cap, .int .i64 a] w (Ret w (.int .i64 (most n rs a))) := by
  have n8 := hv.n8
  have Hl := hideIt hl
  have Hv : Hid (RV n rs) := hideIt hv
  have Hlen := hideIt (hv.farList_len ha)
  have Hm := hideIt (show most n rs a = topTo (farList n rs a) n from rfl)
  obtain ⟨fl, hfl⟩ : ∃ l, farList n rs a = l := ⟨_, rfl⟩
  have Hin : Hid (∀ v, v < n → 0 ≤ a1 fl v ∧ a1 fl v ≤ 100000) := hideIt (fun v hv' => by
    rw [← hfl]
    rcases hv.farList_at ha hv' with ⟨e, _⟩ | ⟨e, g⟩
    · omega
    · have := g.ge; omega)
  have Hfl := hideIt hfl
  clear hl hv hfl
  go_enter Try.func50, Try.ntmps50
  go_wp2_with fail
  refine (l1Far_any _ _ _ _ _ _ _ Hl.out hr Hv.out ha).mono ?_
  rintro e w1 ⟨g, c, rfl, hrow, hb1⟩
  rw [Hfl.out] at hrow
  go_wp2
  go_loopw [7, 9] (fun s i wr => ∃ (k : Nat) (z : Int), k ≤ n ∧ i = .int .i64 k ∧ s = .int .i64 z ∧ Hid (z = topTo fl k) ∧ 0 ≤ z ∧ z ≤ 100000 ∧ wr = w1) (fun _ i _ => n - (intOf i).toNat)
  case atStart => exact ⟨0, 0, by omega, rfl, rfl, hideIt rfl, by omega, by omega, rfl⟩
  case round =>
    obtain ⟨k, z, hk, rfl, rfl, Hz, z0, z1, rfl⟩ := hrel
    by_cases hlt : k < n
    · have hcell := row1_a hrow (k := k) (by have := Hlen.out; rw [Hfl.out] at this; omega)
      obtain ⟨v, hvv⟩ : ∃ v, a1 fl k = v := ⟨_, rfl⟩
      have hb := Hin.out k hlt
      rw [hvv] at hcell hb
      obtain ⟨v0, v1⟩ := hb
      have Hvv := hideIt hvv
      have hkn : (k : Int) < (n : Int) := by omega
      clear hvv
      rcases Int.lt_trichotomy z v with hc | hc | hc
      · go_wp2
        go_roundw
        case rel => exact ⟨k + 1, v, by omega, by go_num, rfl, hideIt (by rw [topTo, ← Hz.out, Hvv.out]; omega), by omega, by omega, trivial⟩
        case measure => simp [intOf]; omega
      · subst hc
        go_wp2
        go_roundw
        case rel => exact ⟨k + 1, z, by omega, by go_num, rfl, hideIt (by rw [topTo, ← Hz.out, Hvv.out]; omega), by omega, by omega, trivial⟩
        case measure => simp [intOf]; omega
      · go_wp2
        go_roundw
        case rel => exact ⟨k + 1, z, by omega, by go_num, rfl, hideIt (by rw [topTo, ← Hz.out, Hvv.out]; omega), by omega, by omega, trivial⟩
        case measure => simp [intOf]; omega
    · obtain rfl : k = n := by omega
      go_wp2
      go_ret
      exact ⟨ret_int (by rw [Hm.out, Hfl.out, Hz.out]), hb1⟩
set_option maxRecDepth 100000 in
set_option maxHeartbeats 1000000 in
theorem specRoadsWhole_any (n : Int) (A : Option Addr) (rs : List (Int × Int × Int)) (m cap : Nat) (w : World) (r : Bool) (hl : rs.length = m) (hm : m ≤ 1048576) (hr : Rd w A (fl3 rs)) (hw : whole n rs = r) :
    Calls Try.prog 24 #[.int .i64 n, .slice A m cap] w (Ret w (.bool r)) := by
  have Hl := hideIt hl
  clear hl
  cases hv : roadsValid n rs
  · have Hv := hideIt hv
    obtain rfl : r = false := by rw [← hw, whole_v hv]
    clear hv hw
    go_enter Try.func24, Try.ntmps24
    go_wp2_with fail
    refine (specRoadsValid_any _ _ _ _ _ _ _ Hl.out hm hr Hv.out).mono ?_
    rintro e w1 ⟨rfl, hb1⟩
    go_wp2
    go_ret
    exact ⟨rfl, hb1⟩
  obtain ⟨nn, rfl, hrv⟩ := roadsValid_t hv
  have Hv := hideIt hv
  have Hrv : Hid (RV nn rs) := hideIt hrv
  have n1 := hrv.n1
  rw [whole_in hv] at hw
  obtain ⟨f, hf⟩ : ∃ f, most nn rs 0 = f := ⟨_, rfl⟩
  rw [hf] at hw
  have Hf := hideIt hf
  have Hw := hideIt hw
  clear hv hrv hf hw
  go_enter Try.func24, Try.ntmps24
  go_wp2_with fail
  refine (specRoadsValid_any _ _ _ _ _ _ _ Hl.out hm hr Hv.out).mono ?_
  rintro e w1 ⟨rfl, hb1⟩
  go_wp2_with fail
  refine (l1Most_any nn _ _ _ _ 0 _ Hl.out (hr.below hb1 (Nat.le_refl _)) Hrv.out (by omega)).mono ?_
  rw [Hf.out]
  rintro e w2 ⟨rfl, hb2⟩
  go_wp2
  go_ret
  exact ⟨ret_bool Hw.out, hb1.trans (hb2.mono hb1.size)⟩
set_option maxRecDepth 100000 in
set_option maxHeartbeats 1000000 in
theorem implRoadsWhole_any (n : Int) (A : Option Addr) (rs : List (Int × Int × Int)) (m cap : Nat) (w : World) (r : Bool) (hl : rs.length = m) (hm : m ≤ 1048576) (hr : Rd w A (fl3 rs)) (hw : whole n rs = r) :
    Calls Try.prog 22 #[.int .i64 n, .slice A m cap] w (Ret w (.bool r)) := by
  have Hl := hideIt hl
  clear hl
  cases hv : roadsValid n rs
  · have Hv := hideIt hv
    obtain rfl : r = false := by rw [← hw, whole_v hv]
    clear hv hw
    go_enter Try.func22, Try.ntmps22
    go_wp2_with fail
    refine (mapRoads_any _ _ _ _ _ _ _ Hl.out hm hr Hv.out).mono ?_
    rintro e w1 ⟨v, rfl, hb1, _⟩
    go_wp2
    go_ret
    exact ⟨rfl, hb1⟩
  obtain ⟨nn, rfl, hrv⟩ := roadsValid_t hv
  have Hv := hideIt hv
  have Hrv : Hid (RV nn rs) := hideIt hrv
  have n1 := hrv.n1
  rw [hrv.whole_reach] at hw
  obtain ⟨f, hf⟩ : ∃ f, reach nn rs 0 = f := ⟨_, rfl⟩
  rw [hf] at hw
  have Hf := hideIt hf
  have Hw := hideIt hw
  clear hv hrv hf hw
  go_enter Try.func22, Try.ntmps22
  go_wp2_with fail
  refine (mapRoads_any _ _ _ _ _ _ _ Hl.out hm hr Hv.out).mono ?_
  rintro e w1 ⟨v, rfl, hb1, hmk⟩
  obtain ⟨bm, m', g, hm', rfl, hmap⟩ := hmk rfl
  obtain rfl : nn = m' := by omega
  clear hmk hm'
  go_wp2_with fail
  refine (distances_any _ _ _ _ 0 _ _ Hrv.out (by omega) hmap).mono ?_
  rintro e w2 ⟨fb, rfl, hfb, him, hb2⟩
  have hlen := him.len 3
  rw [Hf.out] at hlen
  clear him hmap
  go_wp2
  go_ret
  exact ⟨ret_bool Hw.out, hb1.trans (hb2.mono hb1.size)⟩
end Go.Proofs.Ytdnjeahbnidefaa

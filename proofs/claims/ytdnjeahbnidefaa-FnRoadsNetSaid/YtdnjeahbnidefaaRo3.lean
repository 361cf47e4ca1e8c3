/- Walks: has, RoadsValid, RoadsDirect of the program; RoadsDirect of the reference. -/
import Derived.Test.YtdnjeahbnidefaaRo2
import Derived.Test.YtdnjeahbnidefaaGA
namespace Go.Proofs.Ytdnjeahbnidefaa
open Go.RowKit

theorem mapHas_any (w : World) (base b n N : Nat) (e : Int → Int → Int) (g : Nat → Nat) (k : Int) (r : Bool) (hm : RMap w base b n e N g) (hk : IntOk k) (hr : (decide (0 ≤ k) && decide (k < n)) = r) :
    Calls Try.prog 45 #[.map (some b), .int .i64 k] w fun e w' => e = .returned (.bool r) ∧ w = w' := by
  obtain ⟨v, hv⟩ := hm.om.has hk
  rw [hr] at hv
  clear hr
  go_enter Try.func45, Try.ntmps45
  go_wp2
  go_ret
  exact ⟨rfl, rfl⟩
theorem implRoadsValid_any (n : Int) (A : Option Addr) (rs : List (Int × Int × Int)) (m cap : Nat) (w : World) (r : Bool) (hl : rs.length = m) (hm : m ≤ 1048576) (hr : Rd w A (fl3 rs)) (hv : roadsValid n rs = r) :
    Calls Try.prog 35 #[.int .i64 n, .slice A m cap] w (Ret w (.bool r)) := by
  have Hl := hideIt hl
  have Hv := hideIt hv
  clear hl hv
  go_enter Try.func35, Try.ntmps35
  go_wp2_with fail
  refine (mapRoads_any _ _ _ _ _ _ _ Hl.out hm hr Hv.out).mono ?_
  rintro e w1 ⟨v, rfl, hb1, _⟩
  go_wp2
  go_ret
  exact ⟨rfl, hb1⟩
set_option maxRecDepth 100000 in
set_option maxHeartbeats 1000000 in
theorem implRoadsDirect_any (n : Int) (A : Option Addr) (rs : List (Int × Int × Int)) (m cap : Nat) (a b : Int) (w : World) (hl : rs.length = m) (hm : m ≤ 1048576) (hr : Rd w A (fl3 rs)) (ha : IntOk a) (hb : IntOk b) :
    Calls Try.prog 21 #[.int .i64 n, .slice A m cap, .int .i64 a, .int .i64 b] w (Ret w (.int .i64 (direct n rs a b))) := by
  have Hl := hideIt hl
  clear hl
  cases hv : roadsValid n rs
  · have Hv := hideIt hv
    have Hd := hideIt (show direct n rs a b = -1 by rw [direct, hv]; rfl)
    clear hv
    go_enter Try.func21, Try.ntmps21
    go_wp2_with fail
    refine (mapRoads_any _ _ _ _ _ _ _ Hl.out hm hr Hv.out).mono ?_
    rintro e w1 ⟨v, rfl, hb1, _⟩
    go_wp2
    go_ret
    exact ⟨ret_int Hd.out.symm, hb1⟩
  obtain ⟨nn, rfl, hrv⟩ := roadsValid_t hv
  have Hv := hideIt hv
  have Hd := hideIt (show direct nn rs a b = edge rs a b by rw [direct, hv]; rfl)
  have Hrv : Hid (RV nn rs) := hideIt hrv
  have n8 := hrv.n8
  clear hv hrv
  go_enter Try.func21, Try.ntmps21
  go_wp2_with fail
  refine (mapRoads_any _ _ _ _ _ _ _ Hl.out hm hr Hv.out).mono ?_
  rintro e w1 ⟨v, rfl, hb1, hmk⟩
  obtain ⟨bm, m', g, hm', rfl, hmap⟩ := hmk rfl
  obtain rfl : nn = m' := by omega
  clear hmk hm'
  by_cases ha2 : 0 ≤ a ∧ a < nn
  · obtain ⟨a0, a1'⟩ := ha2
    obtain ⟨an, rfl⟩ := Int.eq_ofNat_of_zero_le a0
    have hl1 := hmap.get1 n8 an (by omega)
    by_cases hedge : 0 ≤ edge rs an b
    · have hl2 := hmap.yes (by omega : an < nn) hb hedge
      obtain ⟨ed, hed⟩ : ∃ ed, edge rs an b = ed := ⟨_, rfl⟩
      rw [hed] at hl2
      have Hed := hideIt hed
      clear hed hedge hmap
      go_wp2
      go_ret
      exact ⟨ret_int (by rw [Hd.out, Hed.out]), hb1⟩
    · have hl2 := hmap.no (by omega : an < nn) hb (by omega)
      have Hed := hideIt (show edge rs an b = -1 by have := (Hrv.out.edge_le an b).2; omega)
      clear hedge hmap
      go_wp2
      go_ret
      exact ⟨ret_int (by rw [Hd.out, Hed.out]), hb1⟩
  · have hl1 := hmap.om.none ha ha2
    have hl2 := look_nilI w1 hb
    have Hed := hideIt (show edge rs a b = -1 by
      have h1 := (Hrv.out.edge_le a b).2
      by_cases c : 0 ≤ edge rs a b
      · have := Hrv.out.edge_pos c; omega
      · omega)
    clear ha2 hmap
    go_wp2
    go_ret
    exact ⟨ret_int (by rw [Hd.out, Hed.out]), hb1⟩

end Go.Proofs.Ytdnjeahbnidefaa

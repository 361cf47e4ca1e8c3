/- Walks: RoadsFar of the program. -/
import Derived.Test.YtdnjeahbnidefaaRoD2
import Derived.Test.YtdnjeahbnidefaaRo3
namespace Go.Proofs.Ytdnjeahbnidefaa
open Go.RowKit

/-- what RoadsFar returns -/
def roadsFar (n : Int) (rs : List (Int × Int × Int)) (a b : Int) : Int :=
  if (roadsValid n rs && (decide (0 ≤ a) && decide (a < n)) && (decide (0 ≤ b) && decide (b < n))) = true then dist n.toNat rs a.toNat b.toNat else -1
theorem roadsFar_v {n : Int} {rs : List (Int × Int × Int)} {a b : Int} (h : roadsValid n rs = false) : roadsFar n rs a b = -1 := by unfold roadsFar; rw [h]; rfl
theorem roadsFar_a {n : Int} {rs : List (Int × Int × Int)} {a b : Int} (h : (decide (0 ≤ a) && decide (a < n)) = false) : roadsFar n rs a b = -1 := by unfold roadsFar; rw [h, Bool.and_false]; rfl
theorem roadsFar_b {n : Int} {rs : List (Int × Int × Int)} {a b : Int} (h : (decide (0 ≤ b) && decide (b < n)) = false) : roadsFar n rs a b = -1 := by unfold roadsFar; rw [h, Bool.and_false]; rfl
theorem roadsFar_in {n : Nat} {rs : List (Int × Int × Int)} {a b : Nat} (h : roadsValid n rs = true) (ha : a < n) (hb : b < n) : roadsFar n rs a b = dist n rs a b := by
  unfold roadsFar
  rw [h, decide_eq_true (show (0 : Int) ≤ (a : Int) by omega), decide_eq_true (show (a : Int) < (n : Int) by omega), decide_eq_true (show (0 : Int) ≤ (b : Int) by omega), decide_eq_true (show (b : Int) < (n : Int) by omega)]
  rfl
theorem in_cases {n : Nat} {a : Int} (h : (decide (0 ≤ a) && decide (a < n)) = true) : ∃ t : Nat, a = t ∧ t < n := by
  simp only [Bool.and_eq_true, decide_eq_true_eq] at h
  exact ⟨a.toNat, by omega, by omega⟩

set_option maxRecDepth 100000 in
set_option maxHeartbeats 1000000 in
theorem implRoadsFar_any (n : Int) (A : Option Addr) (rs : List (Int × Int × Int)) (m cap : Nat) (a b : Int) (w : World) (hl : rs.length = m) (hm : m ≤ 1048576) (hr : Rd w A (fl3 rs)) (ha : IntOk a) (hb : IntOk b) :
    Calls Try.prog 15 #[.int .i64 n, .slice A m cap, .int .i64 a, .int .i64 b] w (Ret w (.int .i64 (roadsFar n rs a b))) := by
  have Hl := hideIt hl
  clear hl
  cases hv : roadsValid n rs
  · have Hv := hideIt hv
    have Hd := hideIt (roadsFar_v (a := a) (b := b) hv)
    clear hv
    go_enter Try.func15, Try.ntmps15
    go_wp2_with fail
    refine (mapRoads_any _ _ _ _ _ _ _ Hl.out hm hr Hv.out).mono ?_
    rintro e w1 ⟨v, rfl, hb1, _⟩
    go_wp2
    go_ret
    exact ⟨ret_int Hd.out.symm, hb1⟩
  obtain ⟨nn, rfl, hrv⟩ := roadsValid_t hv
  have Hv := hideIt hv
  have Hrv : Hid (RV nn rs) := hideIt hrv
  have n8 := hrv.n8
  cases h1 : (decide (0 ≤ a) && decide (a < (nn : Int)))
  · have H1 := hideIt h1
    have Hd := hideIt (roadsFar_a (rs := rs) (b := b) h1)
    clear hv hrv h1
    go_enter Try.func15, Try.ntmps15
    go_wp2_with fail
    refine (mapRoads_any _ _ _ _ _ _ _ Hl.out hm hr Hv.out).mono ?_
    rintro e w1 ⟨v, rfl, hb1, hmk⟩
    obtain ⟨bm, m', g, hm', rfl, hmap⟩ := hmk rfl
    obtain rfl : nn = m' := by omega
    clear hmk hm'
    go_wp2_with fail
    refine (mapHas_any _ _ _ _ _ _ _ _ _ hmap ha H1.out).mono ?_
    rintro e w2 ⟨rfl, rfl⟩
    go_wp2
    go_ret
    exact ⟨ret_int Hd.out.symm, hb1⟩
  cases h2 : (decide (0 ≤ b) && decide (b < (nn : Int)))
  · have H1 := hideIt h1
    have H2 := hideIt h2
    have Hd := hideIt (roadsFar_b (rs := rs) (a := a) h2)
    clear hv hrv h1 h2
    go_enter Try.func15, Try.ntmps15
    go_wp2_with fail
    refine (mapRoads_any _ _ _ _ _ _ _ Hl.out hm hr Hv.out).mono ?_
    rintro e w1 ⟨v, rfl, hb1, hmk⟩
    obtain ⟨bm, m', g, hm', rfl, hmap⟩ := hmk rfl
    obtain rfl : nn = m' := by omega
    clear hmk hm'
    go_wp2_with fail
    refine (mapHas_any _ _ _ _ _ _ _ _ _ hmap ha H1.out).mono ?_
    rintro e w2 ⟨rfl, rfl⟩
    go_wp2_with fail
    refine (mapHas_any _ _ _ _ _ _ _ _ _ hmap hb H2.out).mono ?_
    rintro e w2 ⟨rfl, rfl⟩
    go_wp2
    go_ret
    exact ⟨ret_int Hd.out.symm, hb1⟩
  have H1 := hideIt h1
  have H2 := hideIt h2
  obtain ⟨s, rfl, hs⟩ := in_cases h1
  obtain ⟨t, rfl, ht⟩ := in_cases h2
  have Hd := hideIt (roadsFar_in hv hs ht)
  clear hv hrv h1 h2
  go_enter Try.func15, Try.ntmps15
  go_wp2_with fail
  refine (mapRoads_any _ _ _ _ _ _ _ Hl.out hm hr Hv.out).mono ?_
  rintro e w1 ⟨v, rfl, hb1, hmk⟩
  obtain ⟨bm, m', g, hm', rfl, hmap⟩ := hmk rfl
  obtain rfl : nn = m' := by omega
  clear hmk hm'
  go_wp2_with fail
  refine (mapHas_any _ _ _ _ _ _ _ _ _ hmap ha H1.out).mono ?_
  rintro e w2 ⟨rfl, rfl⟩
  go_wp2_with fail
  refine (mapHas_any _ _ _ _ _ _ _ _ _ hmap hb H2.out).mono ?_
  rintro e w2 ⟨rfl, rfl⟩
  go_wp2_with fail
  refine (distances_any _ _ _ _ _ _ _ Hrv.out hs hmap).mono ?_
  rintro e w3 ⟨fb, rfl, hfb, him, hb3⟩
  have hb4 := hb1.trans (hb3.mono hb1.size)
  clear hb3 hfb
  by_cases hf : 0 ≤ farF nn rs s t
  · have hlook := him.yes hb hf
    rw [farF_in rs s ht] at hlook
    obtain ⟨d, hd⟩ : ∃ d, dist nn rs s t = d := ⟨_, rfl⟩
    rw [hd] at hlook
    have Hd2 := hideIt hd
    clear hf him hd
    go_wp2
    go_ret
    exact ⟨ret_int (by rw [Hd.out, Hd2.out]), hb4⟩
  · have hlook := him.no hb (by omega)
    have Hd2 := hideIt (show dist nn rs s t = -1 by
      rw [farF_in rs s ht] at hf
      rcases Hrv.out.dist_at hs ht with ⟨g1, _⟩ | ⟨g1, _⟩
      · exact g1
      · omega)
    clear hf him
    go_wp2
    go_ret
    exact ⟨ret_int (by rw [Hd.out, Hd2.out]), hb4⟩
end Go.Proofs.Ytdnjeahbnidefaa

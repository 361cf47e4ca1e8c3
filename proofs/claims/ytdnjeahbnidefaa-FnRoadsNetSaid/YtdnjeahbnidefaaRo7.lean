/- Walks: RoadsFar of the reference. -/
import Derived.Test.YtdnjeahbnidefaaRo6
namespace Go.Proofs.Ytdnjeahbnidefaa
open Go.RowKit

set_option maxRecDepth 100000 in
set_option maxHeartbeats 1000000 in
theorem specRoadsFar_any (n : Int) (A : Option Addr) (rs : List (Int × Int × Int)) (m cap : Nat) (a b : Int) (w : World) (hl : rs.length = m) (hm : m ≤ 1048576) (hr : Rd w A (fl3 rs)) (_ha : IntOk a) (_hb : IntOk b) :
    Calls Try.prog 38 #[.int .i64 n, .slice A m cap, .int .i64 a, .int .i64 b] w (Ret w (.int .i64 (roadsFar n rs a b))) := by
  have Hl := hideIt hl
  clear hl
  cases hv : roadsValid n rs
  · have Hv := hideIt hv
    have Hd := hideIt (roadsFar_v (a := a) (b := b) hv)
    clear hv
    go_enter Try.func38, Try.ntmps38
    go_wp2_with fail
    refine (specRoadsValid_any _ _ _ _ _ _ _ Hl.out hm hr Hv.out).mono ?_
    rintro e w1 ⟨rfl, hb1⟩
    go_wp2
    go_ret
    exact ⟨ret_int Hd.out.symm, hb1⟩
  obtain ⟨nn, rfl, hrv⟩ := roadsValid_t hv
  have Hv := hideIt hv
  have Hrv : Hid (RV nn rs) := hideIt hrv
  have n8 := hrv.n8
  have n1 := hrv.n1
  have hn1 : IntKind.i64.wrap ((nn : Int) - 1) = (nn : Int) - 1 := IntWalk.i64_in _ (by omega)
  cases h1 : (decide (0 ≤ a) && decide (a < (nn : Int)))
  · have H1 := hideIt (show (decide (0 ≤ a) && decide (a ≤ (nn : Int) - 1)) = false by rw [← h1]; congr 1; exact decide_eq_decide.2 (by omega))
    have Hd := hideIt (roadsFar_a (rs := rs) (b := b) h1)
    clear hv hrv h1
    go_enter Try.func38, Try.ntmps38
    go_wp2_with fail
    refine (specRoadsValid_any _ _ _ _ _ _ _ Hl.out hm hr Hv.out).mono ?_
    rintro e w1 ⟨rfl, hb1⟩
    go_wp2_with fail
    refine (l6In_any _ _ _ _ _ H1.out).mono ?_
    rintro e w2 ⟨rfl, rfl⟩
    go_wp2
    go_ret
    exact ⟨ret_int Hd.out.symm, hb1⟩
  have H1 := hideIt (show (decide (0 ≤ a) && decide (a ≤ (nn : Int) - 1)) = true by rw [← h1]; congr 1; exact decide_eq_decide.2 (by omega))
  cases h2 : (decide (0 ≤ b) && decide (b < (nn : Int)))
  · have H2 := hideIt (show (decide (0 ≤ b) && decide (b ≤ (nn : Int) - 1)) = false by rw [← h2]; congr 1; exact decide_eq_decide.2 (by omega))
    have Hd := hideIt (roadsFar_b (rs := rs) (a := a) h2)
    clear hv hrv h1 h2
    go_enter Try.func38, Try.ntmps38
    go_wp2_with fail
    refine (specRoadsValid_any _ _ _ _ _ _ _ Hl.out hm hr Hv.out).mono ?_
    rintro e w1 ⟨rfl, hb1⟩
    go_wp2_with fail
    refine (l6In_any _ _ _ _ _ H1.out).mono ?_
    rintro e w2 ⟨rfl, rfl⟩
    go_wp2_with fail
    refine (l6In_any _ _ _ _ _ H2.out).mono ?_
    rintro e w2 ⟨rfl, rfl⟩
    go_wp2
    go_ret
    exact ⟨ret_int Hd.out.symm, hb1⟩
  have H2 := hideIt (show (decide (0 ≤ b) && decide (b ≤ (nn : Int) - 1)) = true by rw [← h2]; congr 1; exact decide_eq_decide.2 (by omega))
  obtain ⟨s, rfl, hs⟩ := in_cases h1
  obtain ⟨t, rfl, ht⟩ := in_cases h2
  have Hd := hideIt (roadsFar_in hv hs ht)
  have Hlen := hideIt (hrv.farList_len hs)
  have htn : (t : Int) < (nn : Int) := by omega
  obtain ⟨fl, hfl⟩ : ∃ l, farList nn rs s = l := ⟨_, rfl⟩
  have hdd : dist nn rs s t = if 100000 ≤ a1 fl t then -1 else a1 fl t := by rw [← hfl]; rfl
  have Hfl := hideIt hfl
  have Hdd := hideIt hdd
  obtain ⟨d, hd⟩ : ∃ d, a1 fl t = d := ⟨_, rfl⟩
  have Hd1 := hideIt hd
  clear hv hrv h1 h2 hfl hdd
  by_cases hbig : d < 100000
  all_goals
    have Hbig := hideIt hbig
    go_enter Try.func38, Try.ntmps38
    go_wp2_with fail
    refine (specRoadsValid_any _ _ _ _ _ _ _ Hl.out hm hr Hv.out).mono ?_
    rintro e w1 ⟨rfl, hb1⟩
    go_wp2_with fail
    refine (l6In_any _ _ _ _ _ H1.out).mono ?_
    rintro e w2 ⟨rfl, rfl⟩
    go_wp2_with fail
    refine (l6In_any _ _ _ _ _ H2.out).mono ?_
    rintro e w2 ⟨rfl, rfl⟩
    go_wp2_with fail
    refine (l1Far_any _ _ _ _ _ _ _ Hl.out (hr.below hb1 (Nat.le_refl _)) Hrv.out hs).mono ?_
    rintro e w3 ⟨g, c, rfl, hrow, hb3⟩
    rw [Hfl.out] at hrow
    have hcell := row1_a hrow (k := t) (by have := Hlen.out; rw [Hfl.out] at this; omega)
    rw [Hd1.out] at hcell
    have hb4 := hb1.trans (hb3.mono hb1.size)
    clear hrow hb3
    go_wp2
    go_ret
    exact ⟨ret_int (by have h3 := Hdd.out; have h4 := Hbig.out; rw [Hd.out, h3, Hd1.out]; first | rw [if_neg (by omega)] | rw [if_pos (by omega)]), hb4⟩
theorem specRoadsFar_w (n : Int) (A : Option Addr) (rs : List (Int × Int × Int)) (m cap : Nat) (a b : Int) (w : World) (_wn : IntOk n) (hl : rs.length = m) (hm : m ≤ 1048576) (hr : Rd w A (fl3 rs)) (ha : IntOk a) (hb : IntOk b) :
    Calls Try.prog 38 #[.int .i64 n, .slice A m cap, .int .i64 a, .int .i64 b] w (Ret w (.int .i64 (roadsFar n rs a b))) := specRoadsFar_any n A rs m cap a b w hl hm hr ha hb
theorem implRoadsFar_w (n : Int) (A : Option Addr) (rs : List (Int × Int × Int)) (m cap : Nat) (a b : Int) (w : World) (_wn : IntOk n) (hl : rs.length = m) (hm : m ≤ 1048576) (hr : Rd w A (fl3 rs)) (ha : IntOk a) (hb : IntOk b) :
    Calls Try.prog 15 #[.int .i64 n, .slice A m cap, .int .i64 a, .int .i64 b] w (Ret w (.int .i64 (roadsFar n rs a b))) := implRoadsFar_any n A rs m cap a b w hl hm hr ha hb
end Go.Proofs.Ytdnjeahbnidefaa

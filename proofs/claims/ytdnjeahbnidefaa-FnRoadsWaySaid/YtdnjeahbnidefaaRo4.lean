/- Walks: WayLength of both. -/
import Derived.Test.YtdnjeahbnidefaaRo3
import Derived.StillTailTactics
namespace Go.Proofs.Ytdnjeahbnidefaa
open Go.RowKit

set_option maxRecDepth 100000 in
set_option maxHeartbeats 2000000 in
theorem implWayLength_any (n : Int) (A : Option Addr) (rs : List (Int × Int × Int)) (m cap : Nat) (B : Option Addr) (ws : List Int) (q capB : Nat) (w : World) (hl : rs.length = m) (hm : m ≤ 1048576) (hr : Rd w A (fl3 rs)) (hlb : ws.length = q) (hq : q ≤ 1048576) (hs : Rd w B (fl1 ws)) (hcap : q ≤ capB) (hok : ∀ k, k < ws.length → IntOk (a1 ws k)) :
    Calls Try.prog 29 #[.int .i64 n, .slice A m cap, .slice B q capB] w (Ret w (.int .i64 (wayLength n rs ws))) := by
  have Hl := hideIt hl
  have Hlb := hideIt hlb
  have Hok : Hid (∀ k, k < ws.length → IntOk (a1 ws k)) := hideIt hok
  clear hl hlb hok
  cases hv : roadsValid n rs
  · have Hv := hideIt hv
    have Hd := hideIt (show wayLength n rs ws = -1 by rw [wayLength, wayOk, hv]; rfl)
    clear hv
    go_enter Try.func29, Try.ntmps29
    go_wp2_with fail
    refine (mapRoads_any _ _ _ _ _ _ _ Hl.out hm hr Hv.out).mono ?_
    rintro e w1 ⟨v, rfl, hb1, _⟩
    go_wp2
    go_ret
    exact ⟨ret_int Hd.out.symm, hb1⟩
  obtain ⟨nn, rfl, hrv⟩ := roadsValid_t hv
  have Hv := hideIt hv
  have Hrv : Hid (RV nn rs) := hideIt hrv
  have n8 := hrv.n8
  by_cases hq0 : q = 0
  · have Hd := hideIt (show wayLength nn rs ws = -1 by rw [wayLength, wayOk, decide_eq_false (show ¬ 1 ≤ ws.length by rw [Hlb.out]; omega), Bool.and_false]; rfl)
    subst hq0
    clear hv hrv
    go_enter Try.func29, Try.ntmps29
    go_wp2_with fail
    refine (mapRoads_any _ _ _ _ _ _ _ Hl.out hm hr Hv.out).mono ?_
    rintro e w1 ⟨v, rfl, hb1, _⟩
    go_wp2
    go_ret
    exact ⟨ret_int Hd.out.symm, hb1⟩
  have hq1 : 0 < q := by omega
  have hq2 : (0 : Int) < (q : Int) := by omega
  have hqz : ((q : Int) == 0) = false := by simp; omega
  have hlen1 : decide (1 ≤ ws.length) = true := decide_eq_true (by rw [Hlb.out]; omega)
  have Hno : Hid (∀ j, j < q → wayOne nn rs ws j = false → wayLength nn rs ws = -1) := hideIt fun j hj h => by
    rw [wayLength, wayOk, wayTo_no h _ (by rw [Hlb.out]; exact hj), Bool.and_false]; rfl
  have Hyes : Hid (wayTo nn rs ws q = true → wayLength nn rs ws = waySum rs ws q) := hideIt fun h => by
    rw [wayLength, wayOk, hv, hlen1, Hlb.out, h]; rfl
  obtain ⟨bo, offo, rfl, hbo, hco⟩ := hs.at1 (k := 0) (by rw [Hlb.out]; exact hq1)
  have Hco : Hid (∀ i, i < ws.length → w.cell? ⟨bo, offo + i, none⟩ = some (.int .i64 (a1 ws i))) := hideIt hco
  obtain ⟨x0, hx0⟩ : ∃ x, a1 ws 0 = x := ⟨_, rfl⟩
  have Hx0 := hideIt hx0
  have hc0 := hco 0 (by rw [Hlb.out]; exact hq1)
  rw [hx0] at hc0
  have ok0 := Hok.out 0 (by rw [Hlb.out]; exact hq1)
  rw [hx0] at ok0
  obtain ⟨r0, hr0⟩ : ∃ r, (decide (0 ≤ x0) && decide (x0 < (nn : Int))) = r := ⟨_, rfl⟩
  have Hr0 := hideIt hr0
  have H0 := hideIt (show wayOne nn rs ws 0 = r0 by rw [wayOne_first, hx0, ← hr0]; congr 1; exact decide_eq_decide.2 (by omega))
  have hwc : ∀ w1, Below w.heap.size w w1 → w1.cell? ⟨bo, offo, none⟩ = some (.int .i64 x0) := fun w1 h1 => (h1.cell (p := ⟨bo, offo, none⟩) hbo).trans hc0
  have Hwc : Hid (∀ w1, Below w.heap.size w w1 → w1.cell? ⟨bo, offo, none⟩ = some (.int .i64 x0)) := hideIt hwc
  clear hv hrv hq0 hlen1 hco hx0 hc0 hr0 hwc hs
  cases r0
  · have Hd := hideIt (Hno.out 0 hq1 H0.out)
    go_enter Try.func29, Try.ntmps29
    go_wp2_with fail
    refine (mapRoads_any _ _ _ _ _ _ _ Hl.out hm hr Hv.out).mono ?_
    rintro e w1 ⟨v, rfl, hb1, hmk⟩
    obtain ⟨bm, m', g, hm', rfl, hmap⟩ := hmk rfl
    obtain rfl : nn = m' := by omega
    have hcell := Hwc.out w1 hb1
    clear hmk hm'
    go_wp2_with fail
    refine (mapHas_any _ _ _ _ _ _ _ _ _ hmap ok0 Hr0.out).mono ?_
    rintro e w2 ⟨rfl, rfl⟩
    go_wp2
    go_ret
    exact ⟨ret_int Hd.out.symm, hb1⟩
  by_cases hcap1 : capB = 1
  all_goals
    go_enter Try.func29, Try.ntmps29
    go_wp2_with fail
    refine (mapRoads_any _ _ _ _ _ _ _ Hl.out hm hr Hv.out).mono ?_
    rintro e w1 ⟨v, rfl, hb1, hmk⟩
    obtain ⟨bm, m', g, hm', rfl, hmap⟩ := hmk rfl
    obtain rfl : nn = m' := by omega
    have hcell := Hwc.out w1 hb1
    clear hmk hm'
    go_wp2_with fail
    refine (mapHas_any _ _ _ _ _ _ _ _ _ hmap ok0 Hr0.out).mono ?_
    rintro e w2 ⟨rfl, rfl⟩
    have H1 := hideIt (show wayTo nn rs ws 1 = true by rw [wayTo, H0.out]; rfl)
    have S1 := hideIt (show waySum rs ws 1 = 0 by rfl)
    go_wp2
    go_loopw [9, 38] (fun s i wr => ∃ (k : Nat) (t : Int), k + 1 ≤ q ∧ i = .int .i64 k ∧ s = .int .i64 t ∧ t = waySum rs ws (k + 1) ∧ 0 ≤ t ∧ t ≤ 99 * ((k : Int) + 1) ∧ wayTo nn rs ws (k + 1) = true ∧ wr = w1) (fun _ i _ => q - (intOf i).toNat)
    case atStart => exact ⟨0, 0, by omega, rfl, rfl, S1.out.symm, by omega, by omega, H1.out, rfl⟩
    case round =>
      obtain ⟨k, t, hk, rfl, rfl, ht, t0, t1, hto, rfl⟩ := hrel
      have Ht := hideIt ht
      have Hto := hideIt hto
      clear ht hto
      by_cases hlt : k + 1 < q
      · have hca := (hb1.cell (p := ⟨bo, offo + k, none⟩) hbo).trans (Hco.out k (by rw [Hlb.out]; omega))
        have hcb := (hb1.cell (p := ⟨bo, offo + (k + 1), none⟩) hbo).trans (Hco.out (k + 1) (by rw [Hlb.out]; omega))
        rw [show offo + (k + 1) = offo + 1 + k by omega] at hcb
        have oka := Hok.out k (by rw [Hlb.out]; omega)
        have okb := Hok.out (k + 1) (by rw [Hlb.out]; omega)
        have hone := Hrv.out.wayOne_next (ws := ws) (i := k + 1) (by omega)
        rw [show k + 1 - 1 = k by omega] at hone
        have hsum : waySum rs ws (k + 1 + 1) = waySum rs ws (k + 1) + (if k + 1 = 0 then 0 else edge rs (a1 ws (k + 1 - 1)) (a1 ws (k + 1))) := rfl
        rw [if_neg (by omega), show k + 1 - 1 = k by omega] at hsum
        obtain ⟨xa, hxa⟩ : ∃ x, a1 ws k = x := ⟨_, rfl⟩
        obtain ⟨xb, hxb⟩ : ∃ x, a1 ws (k + 1) = x := ⟨_, rfl⟩
        rw [hxa] at hca oka hone hsum
        rw [hxb] at hcb okb hone hsum
        have Hone := hideIt hone
        have Hsum := hideIt hsum
        have hkq : (k : Int) < (q : Int) := by omega
        have hkq1 : (k : Int) < (q : Int) - 1 := by omega
        have hle := (Hrv.out.edge_le xa xb).1
        clear hxa hxb hone hsum hcell
        by_cases hedge : 0 ≤ edge rs xa xb
        · obtain ⟨_, _, xa0, xan, _⟩ := Hrv.out.edge_pos hedge
          obtain ⟨xn, rfl⟩ := Int.eq_ofNat_of_zero_le xa0
          have hl1 := hmap.get1 n8 xn (by omega)
          have hl2 := hmap.yes (by omega : xn < nn) okb hedge
          have Hto2 := hideIt (show wayTo nn rs ws (k + 1 + 1) = true by rw [wayTo, Hto.out, Hone.out, decide_eq_true hedge]; rfl)
          have Ht2 := hideIt (show t + edge rs xn xb = waySum rs ws (k + 1 + 1) by rw [Hsum.out, ← Ht.out])
          obtain ⟨ed, hed⟩ : ∃ ed, edge rs xn xb = ed := ⟨_, rfl⟩
          rw [hed] at hl2 Ht2 hle hedge
          clear hed
          go_wp2
          all_goals
            go_roundw
            case rel => exact ⟨k + 1, t + ed, by omega, by go_num, by go_num, Ht2.out, by omega, by omega, Hto2.out, by trivial⟩
            case measure => simp [intOf]; omega
        · have Hd := hideIt (Hno.out (k + 1) hlt (by rw [Hone.out, decide_eq_false hedge]))
          by_cases hin : 0 ≤ xa ∧ xa < nn
          · obtain ⟨xn, rfl⟩ := Int.eq_ofNat_of_zero_le hin.1
            have hl1 := hmap.get1 n8 xn (by omega)
            have hl2 := hmap.no (by omega : xn < nn) okb (by omega)
            clear hedge hin hle
            go_wp2
            all_goals
              go_ret
              exact ⟨ret_int Hd.out.symm, hb1⟩
          · have hl1 := hmap.om.none oka hin
            have hl2 := look_nilI wr okb
            clear hedge hin hle
            go_wp2
            all_goals
              go_ret
              exact ⟨ret_int Hd.out.symm, hb1⟩
      · obtain rfl : k + 1 = q := by omega
        have Hd := hideIt (Hyes.out Hto.out)
        go_wp2
        go_ret
        exact ⟨ret_int (by rw [Hd.out, Ht.out]), hb1⟩

end Go.Proofs.Ytdnjeahbnidefaa

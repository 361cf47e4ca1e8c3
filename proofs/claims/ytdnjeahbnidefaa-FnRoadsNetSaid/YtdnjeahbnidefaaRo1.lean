/- Walks: RoadsValid, l1Find, RoadsDirect of the reference. A road is three ints. -/
import Derived.Test.YtdnjeahbnidefaaGA
import Derived.BigQuiet
import Derived.IntWalk
import Derived.Deep.RegionHeld
namespace Go.Proofs.Ytdnjeahbnidefaa
open Go.RowKit

theorem cellA1 {w : World} {a : Addr} {v : Value} (o : Obj) (h : w.cell? a = some v) : (w.alloc o).cell? a = some v := (World.cell?_alloc_some w a o (by rw [h]; rfl)).trans h

set_option maxRecDepth 100000 in
set_option maxHeartbeats 1000000 in
theorem specRoadsValid_any (n : Int) (A : Option Addr) (rs : List (Int × Int × Int)) (m cap : Nat) (w : World) (r : Bool) (hl : rs.length = m) (hm : m ≤ 1048576) (hr : Rd w A (fl3 rs)) (hv : roadsValid n rs = r) :
    Calls Try.prog 37 #[.int .i64 n, .slice A m cap] w (Ret w (.bool r)) := by
  have Hl := hideIt hl
  cases h1 : (decide (1 ≤ n) && decide (n ≤ 8))
  · have Hf := hideIt (show r = false by rw [← hv, roadsValid, townsOk, h1]; rfl)
    have H1 := hideIt h1
    clear hv h1 hl
    go_enter Try.func37, Try.ntmps37
    go_wp2_with fail
    refine (l6In_any _ _ _ _ _ H1.out).mono ?_
    rintro e w2 ⟨rfl, rfl⟩
    go_wp2
    go_ret
    exact ⟨ret_bool Hf.out.symm, Below.refl _ _⟩
  by_cases h16 : 16 < m
  · have Hf := hideIt (show r = false by rw [← hv, roadsValid, townsOk, h1, decide_eq_false (by omega)]; rfl)
    have H1 := hideIt h1
    clear hv h1 hl
    go_enter Try.func37, Try.ntmps37
    go_wp2_with fail
    refine (l6In_any _ _ _ _ _ H1.out).mono ?_
    rintro e w2 ⟨rfl, rfl⟩
    go_wp2
    go_ret
    exact ⟨ret_bool Hf.out.symm, Below.refl _ _⟩
  have Hv := hideIt (show roadsTo n rs m = r by rw [← hv, roadsValid, townsOk, h1, decide_eq_true (show rs.length ≤ 16 by omega), hl]; rfl)
  have H1 := hideIt h1
  have hn : 1 ≤ n ∧ n ≤ 8 := by simpa using h1
  obtain ⟨n1, n8⟩ := hn
  clear hv h1 hl
  go_enter Try.func37, Try.ntmps37
  go_wp2_with fail
  refine (l6In_any _ _ _ _ _ H1.out).mono ?_
  rintro e w2 ⟨rfl, rfl⟩
  go_wp2
  go_loopw [5] (fun i wr => ∃ k : Nat, k ≤ m ∧ i = .int .i64 k ∧ roadsTo n rs k = true ∧ Below w.heap.size w wr) (fun i _ => m - (intOf i).toNat)
  case atStart => exact ⟨0, by omega, rfl, rfl, Below.refl _ _⟩
  case round =>
    obtain ⟨k, hk, rfl, hto, hbw⟩ := hrel
    have Hto := hideIt hto
    clear hto
    by_cases hlt : k < m
    · have hkl : k < rs.length := by rw [Hl.out]; exact hlt
      obtain ⟨b, off, rfl, hb, hc⟩ := (hr.below hbw (Nat.le_refl _)).at3 hkl
      obtain ⟨hx, hy, hz⟩ := hc k hkl
      have hone : roadOne n rs k = (roadIn n rs k && freshTo rs k k) := rfl
      have hin : roadIn n rs k = ((decide (0 ≤ a3 rs k) && decide (a3 rs k ≤ n - 1)) && ((decide (a3 rs k + 1 ≤ b3 rs k) && decide (b3 rs k ≤ n - 1)) && (decide (1 ≤ c3 rs k) && decide (c3 rs k ≤ 99)))) := rfl
      obtain ⟨x, hx'⟩ : ∃ x, a3 rs k = x := ⟨_, rfl⟩
      obtain ⟨y, hy'⟩ : ∃ y, b3 rs k = y := ⟨_, rfl⟩
      obtain ⟨z, hz'⟩ : ∃ z, c3 rs k = z := ⟨_, rfl⟩
      rw [hx'] at hx hin
      rw [hy'] at hy hin
      rw [hz'] at hz hin
      have Hx := hideIt hx'
      have Hy := hideIt hy'
      have hsz := hbw.size
      have bA := hbw.alloc hsz (.cells #[.int .i64 x, .int .i64 y, .int .i64 z] 32)
      have hcA : ∀ i, i < rs.length → (wr.alloc (.cells #[.int .i64 x, .int .i64 y, .int .i64 z] 32)).cell? ⟨b, off + i * 3, none⟩ = some (.int .i64 (a3 rs i)) ∧ (wr.alloc (.cells #[.int .i64 x, .int .i64 y, .int .i64 z] 32)).cell? ⟨b, off + i * 3 + 1, none⟩ = some (.int .i64 (b3 rs i)) := fun i hi => ⟨cellA1 _ (hc i hi).1, cellA1 _ (hc i hi).2.1⟩
      have HcA : Hid (∀ i, i < rs.length → (wr.alloc (.cells #[.int .i64 x, .int .i64 y, .int .i64 z] 32)).cell? ⟨b, off + i * 3, none⟩ = some (.int .i64 (a3 rs i)) ∧ (wr.alloc (.cells #[.int .i64 x, .int .i64 y, .int .i64 z] 32)).cell? ⟨b, off + i * 3 + 1, none⟩ = some (.int .i64 (b3 rs i))) := hideIt hcA
      clear hc hkl hx' hy' hz' hcA
      obtain ⟨r1, hr1⟩ : ∃ r, (decide (0 ≤ x) && decide (x ≤ n - 1)) = r := ⟨_, rfl⟩
      obtain ⟨r2, hr2⟩ : ∃ r, (decide (x + 1 ≤ y) && decide (y ≤ n - 1)) = r := ⟨_, rfl⟩
      obtain ⟨r3, hr3⟩ : ∃ r, (decide (1 ≤ z) && decide (z ≤ 99)) = r := ⟨_, rfl⟩
      rw [hr1, hr2, hr3] at hin
      rw [hin] at hone
      have Hone := hideIt hone
      have R1 := hideIt hr1
      have R2 := hideIt hr2
      have R3 := hideIt hr3
      clear hone hin
      cases r1
      · have Hf := hideIt (show false = r by rw [← Hv.out, roadsTo_no (by rw [Hone.out]; rfl) m hlt])
        clear hr1 hr2 hr3
        go_wp2_with fail
        refine (l6In_any _ _ _ _ _ R1.out).mono ?_
        rintro e w2 ⟨rfl, rfl⟩
        go_wp2
        go_ret
        exact ⟨ret_bool Hf.out, bA⟩
      have hxi : 0 ≤ x ∧ x ≤ n - 1 := by simpa using hr1
      obtain ⟨x0, x1⟩ := hxi
      cases r2
      · have Hf := hideIt (show false = r by rw [← Hv.out, roadsTo_no (by rw [Hone.out]; rfl) m hlt])
        clear hr1 hr2 hr3
        go_wp2_with fail
        refine (l6In_any _ _ _ _ _ R1.out).mono ?_
        rintro e w2 ⟨rfl, rfl⟩
        go_wp2_with fail
        refine (l6In_any _ _ _ _ _ R2.out).mono ?_
        rintro e w2 ⟨rfl, rfl⟩
        go_wp2
        go_ret
        exact ⟨ret_bool Hf.out, bA⟩
      cases r3
      · have Hf := hideIt (show false = r by rw [← Hv.out, roadsTo_no (by rw [Hone.out]; rfl) m hlt])
        clear hr1 hr2 hr3
        go_wp2_with fail
        refine (l6In_any _ _ _ _ _ R1.out).mono ?_
        rintro e w2 ⟨rfl, rfl⟩
        go_wp2_with fail
        refine (l6In_any _ _ _ _ _ R2.out).mono ?_
        rintro e w2 ⟨rfl, rfl⟩
        go_wp2_with fail
        refine (l6In_any _ _ _ _ _ R3.out).mono ?_
        rintro e w2 ⟨rfl, rfl⟩
        go_wp2
        go_ret
        exact ⟨ret_bool Hf.out, bA⟩
      clear hr1 hr2 hr3
      go_wp2_with fail
      refine (l6In_any _ _ _ _ _ R1.out).mono ?_
      rintro e w2 ⟨rfl, rfl⟩
      go_wp2_with fail
      refine (l6In_any _ _ _ _ _ R2.out).mono ?_
      rintro e w2 ⟨rfl, rfl⟩
      go_wp2_with fail
      refine (l6In_any _ _ _ _ _ R3.out).mono ?_
      rintro e w2 ⟨rfl, rfl⟩
      obtain ⟨wo, hwo⟩ : ∃ wo, wo = wr := ⟨_, rfl⟩
      subst hwo
      clear x1 R1 R2 R3 hx hy hz
      go_wp2
      go_loopw [7] (fun i wr => ∃ j : Nat, j ≤ k ∧ i = .int .i64 j ∧ freshTo rs k j = true ∧ ∃ t, wr = (wo.alloc (.cells #[.int .i64 x, .int .i64 y, .int .i64 z] 32)).drewN t) (fun i _ => k - (intOf i).toNat)
      case atStart => exact ⟨0, by omega, rfl, rfl, 0, rfl⟩
      case round =>
        obtain ⟨j, hj, rfl, hfr, t, rfl⟩ := hrel
        have Hfr := hideIt hfr
        clear hfr
        by_cases hjk : j < k
        · obtain ⟨cx, cy⟩ := HcA.out j (by rw [Hl.out]; omega)
          have hstep : freshTo rs k (j + 1) = (freshTo rs k j && !(decide (a3 rs j = a3 rs k) && decide (b3 rs j = b3 rs k))) := rfl
          have hnot := fun h => freshTo_no (rs := rs) (k := k) (j := j) h k hjk
          rw [Hx.out, Hy.out] at hstep hnot
          obtain ⟨u, hu⟩ : ∃ u, a3 rs j = u := ⟨_, rfl⟩
          obtain ⟨v, hv⟩ : ∃ v, b3 rs j = v := ⟨_, rfl⟩
          rw [hu] at cx hstep hnot
          rw [hv] at cy hstep hnot
          have Hstep := hideIt hstep
          have Hnot : Hid ((decide (u = x) && decide (v = y)) = true → freshTo rs k k = false) := hideIt hnot
          have hjm : (j : Int) < (m : Int) := by omega
          clear hu hv hstep hnot
          by_cases c1 : u = x
          · by_cases c2 : v = y
            · have Hf := hideIt (show false = r by rw [← Hv.out, roadsTo_no (by rw [Hone.out, Hnot.out (by rw [decide_eq_true c1, decide_eq_true c2]; rfl), Bool.and_false]) m hlt])
              have d1 : (u == x) = true := by simp [c1]
              have d2 : (v == y) = true := by simp [c2]
              clear c1 c2
              go_wp2
              go_quiet (fail)
              go_wp2
              go_ret
              exact ⟨ret_bool Hf.out, below_drewN (below_drewN bA _) _⟩
            · have Ht := hideIt (show freshTo rs k (j + 1) = true by rw [Hstep.out, Hfr.out, decide_eq_true c1, decide_eq_false c2]; rfl)
              have d1 : (u == x) = true := by simp [c1]
              have d2 : (v == y) = false := by simp [c2]
              clear c1 c2
              go_wp2
              go_quiet (fail)
              go_wp2
              go_roundw
              case rel => exact ⟨j + 1, by omega, by go_num, Ht.out, _, rfl⟩
              case measure => simp [intOf]; omega
          · have Ht := hideIt (show freshTo rs k (j + 1) = true by rw [Hstep.out, Hfr.out, decide_eq_false c1]; rfl)
            have d1 : (u == x) = false := by simp [c1]
            clear c1
            go_wp2
            go_quiet (fail)
            go_wp2
            go_roundw
            case rel => exact ⟨j + 1, by omega, by go_num, Ht.out, _, rfl⟩
            case measure => simp [intOf]; omega
        · obtain rfl : j = k := by omega
          have Hto2 := hideIt (show roadsTo n rs (j + 1) = true by rw [roadsTo, Hto.out, Hone.out, Hfr.out]; rfl)
          go_wp2
          go_roundw
          case rel => exact ⟨j + 1, by omega, by go_num, Hto2.out, below_drewN bA _⟩
          case measure => simp [intOf]; omega
    · obtain rfl : k = m := by omega
      have Hy := hideIt (show true = r by rw [← Hv.out, Hto.out])
      go_wp2
      go_ret
      exact ⟨ret_bool Hy.out, hbw⟩

set_option maxRecDepth 100000 in
set_option maxHeartbeats 1000000 in
theorem l1Find_any (A : Option Addr) (rs : List (Int × Int × Int)) (m cap : Nat) (a b : Int) (w : World) (hl : rs.length = m) (hm : m ≤ 1048576) (hr : Rd w A (fl3 rs)) :
    Calls Try.prog 54 #[.slice A m cap, .int .i64 a, .int .i64 b] w fun e w' => e = .returned (.int .i64 (find1 rs a b)) ∧ w = w' := by
  have Hl := hideIt hl
  have Hf0 := hideIt (show find1 rs a b = findTo rs a b m by rw [find1, hl])
  clear hl
  go_enter Try.func54, Try.ntmps54
  go_wp2
  go_loop [7] (fun i => ∃ k : Nat, k ≤ m ∧ i = .int .i64 k ∧ ∀ j, j < k → hit rs a b j = false) (fun i => m - (intOf i).toNat)
  case atStart => exact ⟨0, by omega, rfl, fun j h => by omega⟩
  case round =>
    obtain ⟨k, hk, rfl, hno⟩ := hrel
    have Hno : Hid (∀ j, j < k → hit rs a b j = false) := hideIt hno
    clear hno
    by_cases hlt : k < m
    · have hkl : k < rs.length := by rw [Hl.out]; exact hlt
      obtain ⟨bb, off, rfl, hb, hc⟩ := hr.at3 hkl
      obtain ⟨hx, hy, hz⟩ := hc k hkl
      have hhit : hit rs a b k = (decide (a3 rs k = min a b) && decide (b3 rs k = max a b)) := rfl
      obtain ⟨x, hx'⟩ : ∃ x, a3 rs k = x := ⟨_, rfl⟩
      obtain ⟨y, hy'⟩ : ∃ y, b3 rs k = y := ⟨_, rfl⟩
      rw [hx'] at hx hhit
      rw [hy'] at hy hhit
      have Hhit := hideIt hhit
      have Hnx : Hid (hit rs a b k = false → ∀ j, j < k + 1 → hit rs a b j = false) := hideIt fun h j hj => by
        by_cases e : j = k
        · subst e; exact h
        · exact Hno.out j (by omega)
      have Hyes : Hid (hit rs a b k = true → find1 rs a b = (k : Int)) := hideIt fun h => by rw [Hf0.out]; exact findTo_at hlt h Hno.out
      clear hc hkl hx' hy' hhit hz
      rcases Int.lt_trichotomy a b with hab | hab | hab
      · have hhit := Hhit.out
        rw [Int.min_eq_left (Int.le_of_lt hab), Int.max_eq_right (Int.le_of_lt hab)] at hhit
        have Hh := hideIt hhit
        clear hhit
        by_cases c1 : x = a
        · by_cases c2 : y = b
          · have Hres := hideIt (Hyes.out (by rw [Hh.out, decide_eq_true c1, decide_eq_true c2]; rfl))
            have d1 : (x == a) = true := by simp [c1]
            have d2 : (y == b) = true := by simp [c2]
            clear c1 c2
            go_wp2
            go_ret
            exact ⟨ret_int Hres.out.symm, rfl⟩
          · have Ht : Hid (∀ j, j < k + 1 → hit rs a b j = false) := hideIt (Hnx.out (by rw [Hh.out, decide_eq_false c2, Bool.and_false]))
            have d1 : (x == a) = true := by simp [c1]
            have d2 : (y == b) = false := by simp [c2]
            clear c1 c2
            go_wp2
            go_round
            case rel => exact ⟨k + 1, by omega, by go_num, Ht.out⟩
            case measure => simp [intOf]; omega
        · have Ht : Hid (∀ j, j < k + 1 → hit rs a b j = false) := hideIt (Hnx.out (by rw [Hh.out, decide_eq_false c1, Bool.false_and]))
          have d1 : (x == a) = false := by simp [c1]
          clear c1
          go_wp2
          go_round
          case rel => exact ⟨k + 1, by omega, by go_num, Ht.out⟩
          case measure => simp [intOf]; omega
      · subst hab
        have hhit := Hhit.out
        rw [Int.min_self, Int.max_self] at hhit
        have Hh := hideIt hhit
        clear hhit
        by_cases c1 : x = a
        · by_cases c2 : y = a
          · have Hres := hideIt (Hyes.out (by rw [Hh.out, decide_eq_true c1, decide_eq_true c2]; rfl))
            have d1 : (x == a) = true := by simp [c1]
            have d2 : (y == a) = true := by simp [c2]
            clear c1 c2
            go_wp2
            go_ret
            exact ⟨ret_int Hres.out.symm, rfl⟩
          · have Ht : Hid (∀ j, j < k + 1 → hit rs a a j = false) := hideIt (Hnx.out (by rw [Hh.out, decide_eq_false c2, Bool.and_false]))
            have d1 : (x == a) = true := by simp [c1]
            have d2 : (y == a) = false := by simp [c2]
            clear c1 c2
            go_wp2
            go_round
            case rel => exact ⟨k + 1, by omega, by go_num, Ht.out⟩
            case measure => simp [intOf]; omega
        · have Ht : Hid (∀ j, j < k + 1 → hit rs a a j = false) := hideIt (Hnx.out (by rw [Hh.out, decide_eq_false c1, Bool.false_and]))
          have d1 : (x == a) = false := by simp [c1]
          clear c1
          go_wp2
          go_round
          case rel => exact ⟨k + 1, by omega, by go_num, Ht.out⟩
          case measure => simp [intOf]; omega
      · have hhit := Hhit.out
        rw [Int.min_eq_right (Int.le_of_lt hab), Int.max_eq_left (Int.le_of_lt hab)] at hhit
        have Hh := hideIt hhit
        clear hhit
        by_cases c1 : x = b
        · by_cases c2 : y = a
          · have Hres := hideIt (Hyes.out (by rw [Hh.out, decide_eq_true c1, decide_eq_true c2]; rfl))
            have d1 : (x == b) = true := by simp [c1]
            have d2 : (y == a) = true := by simp [c2]
            clear c1 c2
            go_wp2
            go_ret
            exact ⟨ret_int Hres.out.symm, rfl⟩
          · have Ht : Hid (∀ j, j < k + 1 → hit rs a b j = false) := hideIt (Hnx.out (by rw [Hh.out, decide_eq_false c2, Bool.and_false]))
            have d1 : (x == b) = true := by simp [c1]
            have d2 : (y == a) = false := by simp [c2]
            clear c1 c2
            go_wp2
            go_round
            case rel => exact ⟨k + 1, by omega, by go_num, Ht.out⟩
            case measure => simp [intOf]; omega
        · have Ht : Hid (∀ j, j < k + 1 → hit rs a b j = false) := hideIt (Hnx.out (by rw [Hh.out, decide_eq_false c1, Bool.false_and]))
          have d1 : (x == b) = false := by simp [c1]
          clear c1
          go_wp2
          go_round
          case rel => exact ⟨k + 1, by omega, by go_num, Ht.out⟩
          case measure => simp [intOf]; omega
    · obtain rfl : k = m := by omega
      have Hres := hideIt (show find1 rs a b = -1 by rw [Hf0.out]; exact findTo_none Hno.out)
      go_wp2
      go_ret
      exact ⟨ret_int Hres.out.symm, rfl⟩
end Go.Proofs.Ytdnjeahbnidefaa

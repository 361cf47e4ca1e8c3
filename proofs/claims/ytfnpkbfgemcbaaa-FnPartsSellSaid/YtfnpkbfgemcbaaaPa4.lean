/- Walks: PartsLength, of the program and of the reference. -/
import Derived.Test.YtfnpkbfgemcbaaaPa3
import Derived.BigRegion
namespace Go.Proofs.Ytfnpkbfgemcbaaa
open Go.RowKit

theorem info_int : (Try.prog.info? 3).map (fun i => (i.zero, i.size, i.bytes)) = some (some (.int .i64 0), 1, 8) := by kernel_rfl

set_option maxHeartbeats 400000 in
theorem implPartsLength_any (A : Option Addr) (ps : List (Int × Int)) (n cap : Nat) (w : World) (hl : ps.length = n) (hn : n ≤ 1048576) (hr : Rd w A (fl2 ps)) :
    Calls Try.prog 21 #[.slice A n cap] w (Ret w (.int .i64 (partsLength ps))) := by
  cases hv : partsValid ps
  · have Hv := hideIt hv
    clear hv
    go_enter Try.func21, Try.ntmps21
    go_wp2_with fail
    refine (implPartsValid_any _ _ _ _ _ _ hl hn hr Hv.out).mono ?_
    rintro e w1 ⟨rfl, hb1⟩
    go_wp2
    go_ret
    exact ⟨ret_int (by rw [partsLength, Hv.out]; rfl), hb1⟩
  · have Hv := hideIt hv
    clear hv
    have hn12 := (partsValid_len Hv.out).2
    rw [hl] at hn12
    have Hl := hideIt hl
    go_enter Try.func21, Try.ntmps21
    go_wp2_with fail
    refine (implPartsValid_any _ _ _ _ _ _ hl hn hr Hv.out).mono ?_
    clear hl
    rintro e w1 ⟨rfl, hb1⟩
    go_wp2
    go_loopw [3, 11] (fun t i wr => ∃ (k : Nat) (s : Int), k ≤ n ∧ i = .int .i64 k ∧ t = .int .i64 s ∧ 0 ≤ s ∧ s ≤ 99 * k ∧ s + sumB (ps.drop k) = sumB ps ∧ Below w.heap.size w wr) (fun _ i _ => n - (intOf i).toNat)
    case atStart => exact ⟨0, 0, by omega, rfl, rfl, by omega, by omega, by simp, hb1⟩
    case round =>
      obtain ⟨k, s, hk, rfl, rfl, h0, h1, hrec, hbw⟩ := hrel
      have Hrec := hideIt hrec
      clear hrec
      by_cases hlt : k < n
      · have hlp : k < ps.length := by rw [Hl.out]; exact hlt
        obtain ⟨b, off, rfl, hb, hc⟩ := hr.at2 hlp
        obtain ⟨hx, hy⟩ := hc k hlp
        obtain ⟨_, _, f3, f4⟩ := partsValid_at Hv.out k hlp
        rw [← hbw.cell (p := ⟨b, off + k * 2, none⟩) hb] at hx
        rw [← hbw.cell (p := ⟨b, off + k * 2 + 1, none⟩) hb] at hy
        have Hst := hideIt (sumB_step ps k hlp)
        clear hc hr hlp
        go_wp2
        go_roundw
        case rel => exact ⟨k + 1, s + b2 ps k, by omega, by go_num, by go_num, by omega, by omega, by rw [← Hrec.out, Hst.out]; omega, hbw.alloc hbw.size _⟩
        case measure => simp [intOf]; omega
      · go_wp2
        go_ret
        obtain rfl : k = n := by omega
        refine ⟨ret_int ?_, hbw⟩
        rw [partsLength, Hv.out, if_pos rfl, ← Hrec.out, List.drop_eq_nil_of_le (by rw [Hl.out]; omega)]
        simp [sumB]

set_option maxHeartbeats 400000 in
theorem l5Sum_any (A : Option Addr) (xs : List Int) (n cap : Nat) (M : Int) (w : World) (hl : xs.length = n) (hn : n ≤ 1048576) (hr : Rd w A (fl1 xs)) (hM : M ≤ 1000000000000) (hin : InR (-M) M xs) :
    Calls Try.prog 62 #[.slice A n cap] w fun e w' => e = .returned (.int .i64 (sum1 xs)) ∧ w = w' := by
  have Hl := hideIt hl
  clear hl
  go_enter Try.func62, Try.ntmps62
  go_wp2
  go_loop [3, 4] (fun t i => ∃ (k : Nat) (s : Int), k ≤ n ∧ i = .int .i64 k ∧ t = .int .i64 s ∧ -(1000000000000 * k) ≤ s ∧ s ≤ 1000000000000 * k ∧ s + sum1 (xs.drop k) = sum1 xs) (fun _ i => n - (intOf i).toNat)
  case atStart => exact ⟨0, 0, by omega, rfl, rfl, by omega, by omega, by simp⟩
  case round =>
    obtain ⟨k, s, hk, rfl, rfl, h0, h1, hrec⟩ := hrel
    have Hrec := hideIt hrec
    clear hrec
    by_cases hlt : k < n
    · have hlp : k < xs.length := by rw [Hl.out]; exact hlt
      obtain ⟨b, off, rfl, hb, hc⟩ := hr.at1 hlp
      have hx := hc k hlp
      obtain ⟨f3, f4⟩ := hin k hlp
      have Hst := hideIt (sum1_step xs k hlp)
      clear hc hr hlp hin
      go_wp2
      go_round
      case rel => exact ⟨k + 1, s + a1 xs k, by omega, by go_num, by go_num, by omega, by omega, by rw [← Hrec.out, Hst.out]; omega⟩
      case measure => simp [intOf]; omega
    · go_wp2
      go_ret
      obtain rfl : k = n := by omega
      refine ⟨ret_int ?_, rfl⟩
      rw [← Hrec.out, List.drop_eq_nil_of_le (by rw [Hl.out]; omega)]
      simp [sum1]

set_option maxHeartbeats 400000 in
theorem l5Miles_any (A : Option Addr) (ps : List (Int × Int)) (n cap : Nat) (w : World) (hl : ps.length = n) (hr : Rd w A (fl2 ps)) (hv : partsValid ps = true) :
    Calls Try.prog 59 #[.slice A n cap] w (RetS w 3 1 6 (fl1 (miles ps))) := by
  have hn12 := (partsValid_len hv).2
  rw [hl] at hn12
  have Hl := hideIt hl
  have Hv := hideIt hv
  clear hl hv
  obtain ⟨i0, hi, hz0, hz1, hz2⟩ := info_parts info_int
  go_enter Try.func59, Try.ntmps59
  go_wp2_with (refine wpList_make_full _ rfl _ _ _ rfl w.heap.size 3 i0 _ 1 Try.underlying34 hi hz0 hz1 .i64 .i64 _ _ 6 rfl rfl rfl rfl (by rw [hz2]; omega) (by unfold maxLen; omega) (Nat.le_refl _) ?_; intro w1 hown hgrow)
  have hbw1 : Below w.heap.size w w1 := (Below.refl _ _).grown hgrow (Nat.le_refl _) (by simp)
  go_loopw [4] (fun i wr => ∃ (k : Nat) (out : List Int), k ≤ n ∧ i = .int .i64 k ∧ wr.ownsRow w.heap.size 3 1 (.slice (some ⟨w.heap.size, 0, none⟩) 6 6) 6 (fl1 out) ∧ out.length = 6 ∧ InR 0 (99 * k) out ∧ (ps.drop k).foldl milesStep out = miles ps ∧ Below w.heap.size w wr) (fun i _ => n - (intOf i).toNat)
  case atStart => exact ⟨0, List.replicate 6 0, by omega, rfl, by rw [← made1]; exact hown, by simp, InR.zero 6, by simp [miles], hbw1⟩
  case round =>
    obtain ⟨k, out, hk, rfl, hrow, hlo, hin, hrec, hbw⟩ := hrel
    have Hrec := hideIt hrec
    have Hlo := hideIt hlo
    clear hrec hlo hown hgrow hbw1
    by_cases hlt : k < n
    · have hlp : k < ps.length := by rw [Hl.out]; exact hlt
      obtain ⟨b, off, rfl, hb, hc⟩ := hr.at2 hlp
      obtain ⟨hx, hy⟩ := hc k hlp
      obtain ⟨f1, f2, f3, f4⟩ := partsValid_at Hv.out k hlp
      rw [← hbw.cell (p := ⟨b, off + k * 2, none⟩) hb] at hx
      rw [← hbw.cell (p := ⟨b, off + k * 2 + 1, none⟩) hb] at hy
      have Hst := hideIt (miles_step ps out k hlp)
      have hoi : (a2 ps k).toNat < out.length := by rw [Hlo.out]; omega
      have hco := row1_a hrow hoi
      obtain ⟨g1, g2⟩ := hin _ hoi
      have hfr := fun j => hrow.frozenAt j
      have hsto := row1_store hrow hoi (a1 out (a2 ps k).toNat + b2 ps k)
      have hin' := InR.set hin (hi' := 99 * (k + 1)) (by omega) (k := (a2 ps k).toNat) (v := a1 out (a2 ps k).toNat + b2 ps k) (by omega) (by omega)
      clear hc hr hlp hrow hin
      go_wp2
      go_region
      go_wp2
      go_roundw
      case rel => exact ⟨k + 1, _, by omega, by go_num, hsto, by rw [List.length_set]; exact Hlo.out, hin', by rw [← Hrec.out, Hst.out]; rfl, (hbw.setCell (p := ⟨w.heap.size, (a2 ps k).toNat, none⟩) (Nat.le_refl _) _).drew⟩
      case measure => simp [intOf]; omega
    · go_wp2
      go_ret
      obtain rfl : k = n := by omega
      rw [List.drop_eq_nil_of_le (by rw [Hl.out]; omega)] at Hrec
      exact ⟨_, _, rfl, by rw [← Hrec.out]; exact hrow, hbw⟩

set_option maxHeartbeats 400000 in
theorem specPartsLength_any (A : Option Addr) (ps : List (Int × Int)) (n cap : Nat) (w : World) (hl : ps.length = n) (hn : n ≤ 1048576) (hr : Rd w A (fl2 ps)) :
    Calls Try.prog 52 #[.slice A n cap] w (Ret w (.int .i64 (partsLength ps))) := by
  cases hv : partsValid ps
  · have Hv := hideIt hv
    clear hv
    go_enter Try.func52, Try.ntmps52
    go_wp2_with fail
    refine (specPartsValid_any _ _ _ _ _ _ hl hn hr Hv.out).mono ?_
    rintro e w1 ⟨rfl, rfl⟩
    go_wp2
    go_ret
    exact ⟨ret_int (by rw [partsLength, Hv.out]; rfl), Below.refl _ _⟩
  · have Hv := hideIt hv
    clear hv
    go_enter Try.func52, Try.ntmps52
    go_wp2_with fail
    refine (specPartsValid_any _ _ _ _ _ _ hl hn hr Hv.out).mono ?_
    rintro e w1 ⟨rfl, rfl⟩
    go_wp2_with fail
    refine (l5Miles_any _ _ _ _ _ hl hr Hv.out).mono ?_
    rintro e w1 ⟨A1, c1, rfl, ho1, hb1⟩
    go_wp2_with fail
    refine (l5Sum_any _ _ _ _ 2000 _ (miles_len ps) (by omega) (Rd.of_own ho1) (by omega) (miles_in Hv.out)).mono ?_
    rintro e w' ⟨rfl, rfl⟩
    go_wp2
    go_ret
    exact ⟨ret_int (by rw [partsLength, Hv.out, if_pos rfl, sum1_miles Hv.out]), hb1⟩
end Go.Proofs.Ytfnpkbfgemcbaaa

/- Walks: RoadsLength. -/
import Derived.Test.YtdnjeahbnidefaaRoSub
namespace Go.Proofs.Ytdnjeahbnidefaa
open Go.RowKit

theorem RV.sumC_in {n : Nat} {rs : List (Int × Int × Int)} (h : RV n rs) : ∀ k, k ≤ rs.length → 0 ≤ sumC (rs.drop (rs.length - k)) ∧ sumC (rs.drop (rs.length - k)) ≤ 99 * k := by
  intro k
  induction k with
  | zero => intro _; rw [Nat.sub_zero, List.drop_eq_nil_of_le (Nat.le_refl _)]; simp [sumC]
  | succ k ih =>
    intro hk
    have h1 := ih (by omega)
    have h2 := h.road (rs.length - (k + 1)) (by omega)
    rw [sumC_step rs (rs.length - (k + 1)) (by omega), show rs.length - (k + 1) + 1 = rs.length - k by omega]
    omega
set_option maxRecDepth 100000 in
set_option maxHeartbeats 1000000 in
theorem implRoadsLength_any (n : Int) (A : Option Addr) (rs : List (Int × Int × Int)) (m cap : Nat) (w : World) (hl : rs.length = m) (hm : m ≤ 1048576) (hr : Rd w A (fl3 rs)) :
    Calls Try.prog 31 #[.int .i64 n, .slice A m cap] w (Ret w (.int .i64 (roadsLength n rs))) := by
  have Hl := hideIt hl
  clear hl
  cases hv : roadsValid n rs
  · have Hv := hideIt hv
    have Hd := hideIt (show roadsLength n rs = -1 by rw [roadsLength, hv]; rfl)
    clear hv
    go_enter Try.func31, Try.ntmps31
    go_wp2_with fail
    refine (implRoadsValid_any _ _ _ _ _ _ _ Hl.out hm hr Hv.out).mono ?_
    rintro e w1 ⟨rfl, hb1⟩
    go_wp2
    go_ret
    exact ⟨ret_int Hd.out.symm, hb1⟩
  have Hv := hideIt hv
  have Hd := hideIt (show roadsLength n rs = sumC rs by rw [roadsLength, hv]; rfl)
  obtain ⟨nn, rfl, hrv⟩ := roadsValid_t hv
  have Hrv : Hid (RV nn rs) := hideIt hrv
  have l16 := hrv.l16
  rw [Hl.out] at l16
  clear hv hrv
  go_enter Try.func31, Try.ntmps31
  go_wp2_with fail
  refine (implRoadsValid_any _ _ _ _ _ _ _ Hl.out hm hr Hv.out).mono ?_
  rintro e w1 ⟨rfl, hb1⟩
  have hr1 := hr.below hb1 (Nat.le_refl _)
  go_wp2
  go_loopw [5, 14] (fun s i wr => ∃ (k : Nat) (z : Int), k ≤ m ∧ i = .int .i64 k ∧ s = .int .i64 z ∧ z + sumC (rs.drop k) = sumC rs ∧ 0 ≤ z ∧ z ≤ 99 * k ∧ Below w.heap.size w wr) (fun _ i _ => m - (intOf i).toNat)
  case atStart => exact ⟨0, 0, by omega, rfl, rfl, by simp, by omega, by omega, hb1⟩
  case round =>
    obtain ⟨k, z, hk, rfl, rfl, hrec, z0, z1, hbw⟩ := hrel
    have Hrec := hideIt hrec
    clear hrec
    by_cases hlt : k < m
    · have hkl : k < rs.length := by rw [Hl.out]; exact hlt
      obtain ⟨bb, off, rfl, hblk, hc⟩ := hr.at3 hkl
      obtain ⟨hx, hy, hz⟩ := hc k hkl
      rw [← hbw.cell (p := ⟨bb, off + k * 3, none⟩) hblk] at hx
      rw [← hbw.cell (p := ⟨bb, off + k * 3 + 1, none⟩) hblk] at hy
      rw [← hbw.cell (p := ⟨bb, off + k * 3 + 2, none⟩) hblk] at hz
      have Hst := hideIt (sumC_step rs k hkl)
      obtain ⟨_, _, _, q1, q2⟩ := Hrv.out.road k hkl
      obtain ⟨q, hq⟩ : ∃ q, c3 rs k = q := ⟨_, rfl⟩
      rw [hq] at hz q1 q2 Hst
      clear hc hkl hq hb1 hr1
      go_wp2
      go_roundw
      case rel => exact ⟨k + 1, z + q, by omega, by go_num, by go_num, by have := Hrec.out; have := Hst.out; omega, by omega, by omega, hbw.alloc hbw.size _⟩
      case measure => simp [intOf]; omega
    · obtain rfl : k = m := by omega
      have Hz := hideIt (show z = sumC rs by have := Hrec.out; rw [List.drop_eq_nil_of_le (by rw [Hl.out]; omega)] at this; simp [sumC] at this; rw [this]; rfl)
      go_wp2
      go_ret
      exact ⟨ret_int (by rw [Hd.out, Hz.out]), hbw⟩
set_option maxRecDepth 100000 in
set_option maxHeartbeats 1000000 in
theorem specRoadsLength_any (n : Int) (A : Option Addr) (rs : List (Int × Int × Int)) (m cap : Nat) (w : World) (hl : rs.length = m) (hm : m ≤ 1048576) (hr : Rd w A (fl3 rs)) :
    Calls Try.prog 32 #[.int .i64 n, .slice A m cap] w (Ret w (.int .i64 (roadsLength n rs))) := by
  have Hl := hideIt hl
  clear hl
  cases hv : roadsValid n rs
  · have Hv := hideIt hv
    have Hd := hideIt (show roadsLength n rs = -1 by rw [roadsLength, hv]; rfl)
    clear hv
    go_enter Try.func32, Try.ntmps32
    go_wp2_with fail
    refine (specRoadsValid_any _ _ _ _ _ _ _ Hl.out hm hr Hv.out).mono ?_
    rintro e w1 ⟨rfl, hb1⟩
    go_wp2
    go_ret
    exact ⟨ret_int Hd.out.symm, hb1⟩
  have Hv := hideIt hv
  have Hd := hideIt (show roadsLength n rs = sumC rs by rw [roadsLength, hv]; rfl)
  obtain ⟨nn, rfl, hrv⟩ := roadsValid_t hv
  have Hrv : Hid (RV nn rs) := hideIt hrv
  have l16 := hrv.l16
  rw [Hl.out] at l16
  clear hv hrv
  go_enter Try.func32, Try.ntmps32
  go_wp2_with fail
  refine (specRoadsValid_any _ _ _ _ _ _ _ Hl.out hm hr Hv.out).mono ?_
  rintro e w1 ⟨rfl, hb1⟩
  have hr1 := hr.below hb1 (Nat.le_refl _)
  go_wp2
  go_loopw [5, 6] (fun s i wr => ∃ (k : Nat) (z : Int), k ≤ m ∧ i = .int .i64 k ∧ s = .int .i64 z ∧ z + sumC (rs.drop k) = sumC rs ∧ 0 ≤ z ∧ z ≤ 99 * k ∧ Below w.heap.size w wr) (fun _ i _ => m - (intOf i).toNat)
  case atStart => exact ⟨0, 0, by omega, rfl, rfl, by simp, by omega, by omega, hb1⟩
  case round =>
    obtain ⟨k, z, hk, rfl, rfl, hrec, z0, z1, hbw⟩ := hrel
    have Hrec := hideIt hrec
    clear hrec
    by_cases hlt : k < m
    · have hkl : k < rs.length := by rw [Hl.out]; exact hlt
      obtain ⟨bb, off, rfl, hblk, hc⟩ := hr.at3 hkl
      obtain ⟨hx, hy, hz⟩ := hc k hkl
      rw [← hbw.cell (p := ⟨bb, off + k * 3, none⟩) hblk] at hx
      rw [← hbw.cell (p := ⟨bb, off + k * 3 + 1, none⟩) hblk] at hy
      rw [← hbw.cell (p := ⟨bb, off + k * 3 + 2, none⟩) hblk] at hz
      have Hst := hideIt (sumC_step rs k hkl)
      obtain ⟨_, _, _, q1, q2⟩ := Hrv.out.road k hkl
      obtain ⟨q, hq⟩ : ∃ q, c3 rs k = q := ⟨_, rfl⟩
      rw [hq] at hz q1 q2 Hst
      have hkm : (k : Int) < (m : Int) := by omega
      clear hc hkl hq hb1 hr1
      go_wp2
      go_roundw
      case rel => exact ⟨k + 1, z + q, by omega, by go_num, by go_num, by have := Hrec.out; have := Hst.out; omega, by omega, by omega, hbw⟩
      case measure => simp [intOf]; omega
    · obtain rfl : k = m := by omega
      have Hz := hideIt (show z = sumC rs by have := Hrec.out; rw [List.drop_eq_nil_of_le (by rw [Hl.out]; omega)] at this; simp [sumC] at this; rw [this]; rfl)
      go_wp2
      go_ret
      exact ⟨ret_int (by rw [Hd.out, Hz.out]), hbw⟩
end Go.Proofs.Ytdnjeahbnidefaa

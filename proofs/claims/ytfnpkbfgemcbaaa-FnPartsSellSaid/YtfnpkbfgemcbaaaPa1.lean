/- Walks: the exact laws' helpers for parts. -/
import Derived.Test.YtfnpkbfgemcbaaaL6
namespace Go.Proofs.Ytfnpkbfgemcbaaa
open Go.RowKit

theorem szPartS_yes (A : Option Addr) (n cap : Nat) (left : Int) (w : World) (h : n ≤ left) (hl : left ≤ 1048576) :
    Calls Try.prog 9 #[.slice A n cap, .int .i64 left] w fun e w' => e = .returned (.int .i64 (left - n)) ∧ w = w' := by
  go_enter Try.func9, Try.ntmps9
  go_wp2
  go_ret
  exact ⟨rfl, rfl⟩

theorem szPartS_no (A : Option Addr) (n cap : Nat) (left : Int) (w : World) (h : left < n) (h0 : 0 ≤ left) (hl : n ≤ 9223372036854775807) :
    Calls Try.prog 9 #[.slice A n cap, .int .i64 left] w fun e w' => e = .returned (.int .i64 (-1)) ∧ w = w' := by
  go_enter Try.func9, Try.ntmps9
  go_wp2
  go_ret
  exact ⟨rfl, rfl⟩

theorem toPart_any (a b : Int) (w : World) :
    Calls Try.prog 40 #[.agg #[.int .i64 a, .int .i64 b]] w (Ret w (.agg #[.int .i64 a, .int .i64 b])) := by
  go_enter Try.func40, Try.ntmps40
  go_wp2
  refine bodyPost_ret (v := .agg #[.int .i64 a, .int .i64 b]) (by simp [results, Try.results40, go_sem]) rfl ⟨rfl, ?_⟩
  exact (((Below.refl _ _).alloc (Nat.le_refl _) _).alloc (by simp) _).alloc (by simp; omega) _

theorem info_Part : (Try.prog.info? 38).map (fun i => (i.zero, i.size, i.bytes)) = some (some (.agg #[.int .i64 0, .int .i64 0]), 2, 16) := by kernel_rfl

/-- the first k records written, the rest zero -/
def half2 (ps : List (Int × Int)) (k : Nat) : List (Int × Int) := ps.take k ++ List.replicate (ps.length - k) (0, 0)
theorem half2_len (ps : List (Int × Int)) (k : Nat) (h : k ≤ ps.length) : (half2 ps k).length = ps.length := by simp [half2]; omega
theorem half2_zero (ps : List (Int × Int)) : half2 ps 0 = List.replicate ps.length (0, 0) := by simp [half2]
theorem half2_end (ps : List (Int × Int)) : half2 ps ps.length = ps := by simp [half2]
theorem half2_at (ps : List (Int × Int)) (k : Nat) (h : k < ps.length) : (half2 ps k)[k]? = some (0, 0) := by
  unfold half2
  rw [List.getElem?_append_right (by simp; omega)]
  simp only [List.length_take, List.getElem?_replicate]
  rw [if_pos (by omega)]
theorem half2_set (ps : List (Int × Int)) (k : Nat) (h : k < ps.length) : (half2 ps k).set k (a2 ps k, b2 ps k) = half2 ps (k + 1) := by
  unfold half2 a2 b2
  apply List.ext_getElem?
  intro j
  by_cases hj : j = k
  · subst hj
    rw [List.getElem?_set_self (by simp; omega)]
    rw [List.getElem?_append_left (by simp; omega)]
    simp [h]
  · rw [List.getElem?_set_ne (by omega)]
    by_cases hlt : j < k
    · rw [List.getElem?_append_left (by simp; omega), List.getElem?_append_left (by simp; omega)]
      rw [List.getElem?_take_of_lt (by omega), List.getElem?_take_of_lt (by omega)]
    · rw [List.getElem?_append_right (by simp; omega), List.getElem?_append_right (by simp; omega)]
      simp only [List.length_take, List.getElem?_replicate]
      rw [show min k ps.length = k by omega, show min (k + 1) ps.length = k + 1 by omega]
      by_cases h2 : j - k < ps.length - k
      · rw [if_pos h2, if_pos (by omega)]
      · rw [if_neg h2, if_neg (by omega)]
theorem made2 (n : Nat) : (madeCells #[.int .i64 0, .int .i64 0] (n * 2)).toList = fl2 (List.replicate n (0, 0)) := by
  apply List.ext_getElem?
  intro j
  by_cases hj : j < n * 2
  · have hk : j / 2 < (List.replicate n ((0 : Int), (0 : Int))).length := by simp; omega
    have := flat_get enc2 2 enc2_len (List.replicate n (0, 0)) (j / 2) (j % 2) (0, 0) (by rw [List.getElem?_replicate, if_pos (by omega)]) (by omega)
    rw [show j / 2 * 2 + j % 2 = j by omega] at this
    unfold fl2
    rw [this]
    have hm : j % 2 = 0 ∨ j % 2 = 1 := by omega
    rcases hm with hm | hm <;> simp [madeCells, hj, hm, enc2]
  · rw [List.getElem?_eq_none (by simp [size_madeCells]; omega), List.getElem?_eq_none (by rw [fl2_len]; simp; omega)]
set_option maxHeartbeats 400000 in
theorem toPartS_any (A : Option Addr) (ps : List (Int × Int)) (n cap : Nat) (w : World) (hl : ps.length = n) (hn : n ≤ 1048576) (hr : Rd w A (fl2 ps)) :
    Calls Try.prog 11 #[.slice A n cap] w (RetG w 38 2 n (fl2 ps)) := by
  subst hl
  obtain ⟨i0, hi, hz0, hz1, hz2⟩ := info_parts info_Part
  go_enter Try.func11, Try.ntmps11
  go_wp2_with (refine wpList_make_full _ rfl _ _ _ rfl w.heap.size 38 i0 _ 2 Try.underlying24 hi hz0 hz1 .i64 .i64 _ _ ps.length rfl rfl rfl rfl (by rw [hz2]; omega) (by unfold maxLen; omega) (Nat.le_refl _) ?_; intro w1 hown hgrow)
  have hbw1 : Below w.heap.size w w1 := (Below.refl _ _).grown hgrow (Nat.le_refl _) (by simp)
  go_loopw [4] (fun i wr => ∃ k : Nat, k ≤ ps.length ∧ i = .int .i64 k ∧ wr.ownsRow w.heap.size 38 2 (.slice (some ⟨w.heap.size, 0, none⟩) ps.length ps.length) ps.length (fl2 (half2 ps k)) ∧ Below w.heap.size w wr)
    (fun i _ => ps.length - (intOf i).toNat)
  case atStart => exact ⟨0, by omega, rfl, by rw [half2_zero, ← made2]; exact hown, hbw1⟩
  case round =>
    obtain ⟨k, hk, rfl, hrow, hbw⟩ := hrel
    clear hown hgrow hbw1
    by_cases hlt : k < ps.length
    · obtain ⟨b, off, rfl, hb, hc⟩ := hr.at2 hlt
      obtain ⟨hx, hy⟩ := hc k hlt
      rw [← hbw.cell (p := ⟨b, off + k * 2, none⟩) hb] at hx
      rw [← hbw.cell (p := ⟨b, off + k * 2 + 1, none⟩) hb] at hy
      clear hc hr
      go_wp2_with fail
      refine (toPart_any _ _ _).mono ?_
      rintro e w2 ⟨rfl, hb2⟩
      have hrow2 := own_below hrow hb2 (Nat.le_refl _)
      have hk2 : k < (half2 ps k).length := by rw [half2_len ps k hk]; exact hlt
      have hl2 : (half2 ps k).length = ps.length := half2_len ps k hk
      have hcells := row2_a hrow2 hk2
      have hfr := fun j => hrow2.frozenAt j
      have hst := row2_store hrow2 hk2 (a2 ps k) (b2 ps k)
      rw [half2_set ps k hlt] at hst
      obtain ⟨hca, hcb⟩ := hcells
      have hbw2 := hbw.trans (hb2.mono hbw.size)
      clear hrow hrow2 hl2
      go_wp2
      go_roundw
      case rel => exact ⟨k + 1, by omega, by go_num, hst, (hbw2.setCell (by simp) _).setCell (by simp) _⟩
      case measure => simp [intOf]; omega
    · go_wp2
      go_ret
      obtain rfl : k = ps.length := by omega
      exact ⟨_, _, rfl, by rw [half2_end] at hrow; exact hrow, hbw⟩
end Go.Proofs.Ytfnpkbfgemcbaaa

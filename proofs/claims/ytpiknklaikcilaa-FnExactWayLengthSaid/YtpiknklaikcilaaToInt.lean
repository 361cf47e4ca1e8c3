/- Walks: laws.toIntS, a copy of a list of ints. -/
import Derived.Test.YtpiknklaikcilaaInt
namespace Go.Proofs.Ytpiknklaikcilaa
open Go.RowKit

theorem info_int' : (Try.prog.info? 3).map (fun i => (i.zero, i.size, i.bytes)) = some (some (.int .i64 0), 1, 8) := by kernel_rfl
/-- the first k numbers written, the rest zero -/
def half1 (ps : List Int) (k : Nat) : List Int := ps.take k ++ List.replicate (ps.length - k) 0
theorem half1_len (ps : List Int) (k : Nat) (h : k ≤ ps.length) : (half1 ps k).length = ps.length := by simp [half1]; omega
theorem half1_zero (ps : List Int) : half1 ps 0 = List.replicate ps.length 0 := by simp [half1]
theorem half1_end (ps : List Int) : half1 ps ps.length = ps := by simp [half1]
theorem half1_set (ps : List Int) (k : Nat) (h : k < ps.length) : (half1 ps k).set k (a1 ps k) = half1 ps (k + 1) := by
  unfold half1 a1
  apply List.ext_getElem?
  intro j
  by_cases hj : j = k
  · subst hj
    rw [List.getElem?_set_self (by simp; omega)]
    rw [List.getElem?_append_left (by simp; omega)]
    simp [h]
  · rw [List.getElem?_set_ne (by omega)]
    by_cases hlt : j < k
    · rw [List.getElem?_append_left (by simp; omega), List.getElem?_append_left (by simp; omega)]
      rw [List.getElem?_take_of_lt (by omega), List.getElem?_take_of_lt (by omega)]
    · rw [List.getElem?_append_right (by simp; omega), List.getElem?_append_right (by simp; omega)]
      simp only [List.length_take, List.getElem?_replicate]
      rw [show min k ps.length = k by omega, show min (k + 1) ps.length = k + 1 by omega]
      by_cases h2 : j - k < ps.length - k
      · rw [if_pos h2, if_pos (by omega)]
      · rw [if_neg h2, if_neg (by omega)]
set_option maxRecDepth 100000 in
set_option maxHeartbeats 1000000 in
theorem toIntS_any (A : Option Addr) (ps : List Int) (n cap : Nat) (w : World) (hl : ps.length = n) (hn : n ≤ 1048576) (hr : Rd w A (fl1 ps)) :
    Calls Try.prog 25 #[.slice A n cap] w (RetG w 3 1 n (fl1 ps)) := by
  subst hl
  obtain ⟨i0, hi, hz0, hz1, hz2⟩ := info_parts info_int'
  go_enter Try.func25, Try.ntmps25
  go_wp2_with (refine wpList_make_full _ rfl _ _ _ rfl w.heap.size 3 i0 _ 1 Try.underlying24 hi hz0 hz1 .i64 .i64 _ _ ps.length rfl rfl rfl rfl (by rw [hz2]; omega) (by unfold maxLen; omega) (Nat.le_refl _) ?_; intro w1 hown hgrow)
  have hbw1 : Below w.heap.size w w1 := (Below.refl _ _).grown hgrow (Nat.le_refl _) (by simp)
  go_loopw [4] (fun i wr => ∃ k : Nat, k ≤ ps.length ∧ i = .int .i64 k ∧ wr.ownsRow w.heap.size 3 1 (.slice (some ⟨w.heap.size, 0, none⟩) ps.length ps.length) ps.length (fl1 (half1 ps k)) ∧ Below w.heap.size w wr)
    (fun i _ => ps.length - (intOf i).toNat)
  case atStart => exact ⟨0, by omega, rfl, by rw [half1_zero, ← made1]; exact hown, hbw1⟩
  case round =>
    obtain ⟨k, hk, rfl, hrow, hbw⟩ := hrel
    clear hown hgrow hbw1
    by_cases hlt : k < ps.length
    · obtain ⟨b, off, rfl, hb, hc⟩ := hr.at1 hlt
      have hx := (hbw.cell (p := ⟨b, off + k, none⟩) hb).trans (hc k hlt)
      have hk2 : k < (half1 ps k).length := by rw [half1_len ps k hk]; exact hlt
      have hca := row1_a hrow hk2
      have hfr := fun j => hrow.frozenAt j
      have hst := row1_store hrow hk2 (a1 ps k)
      rw [half1_set ps k hlt] at hst
      clear hrow hc hr hk2
      go_wp2
      go_roundw
      case rel => exact ⟨k + 1, by omega, by go_num, hst, hbw.setCell (by simp) _⟩
      case measure => simp [intOf]; omega
    · go_wp2
      go_ret
      obtain rfl : k = ps.length := by omega
      exact ⟨_, _, rfl, by rw [half1_end] at hrow; exact hrow, hbw⟩
end Go.Proofs.Ytpiknklaikcilaa

/- Walks: PartsOwner and PartsPlain of the reference. -/
import Derived.Test.YtfnpkbfgemcbaaaPa4
import Derived.Test.YtfnpkbfgemcbaaaPa8
import Derived.Maps.AppendAt
import Derived.BigQuiet
namespace Go.Proofs.Ytfnpkbfgemcbaaa
open Go.RowKit

set_option maxHeartbeats 1000000 in
theorem l5Owners_any (A : Option Addr) (ps : List (Int × Int)) (n cap : Nat) (w : World) (hl : ps.length = n) (hr : Rd w A (fl2 ps)) (hv : partsValid ps = true) :
    Calls Try.prog 37 #[.slice A n cap] w (RetS w 3 1 (owners ps).length (fl1 (owners ps))) := by
  have hn12 := (partsValid_len hv).2
  rw [hl] at hn12
  have Hl := hideIt hl
  have Hv := hideIt hv
  clear hl hv
  obtain ⟨i0, hi, hz0, hz1, hz2⟩ := info_parts info_int
  go_enter Try.func37, Try.ntmps37
  go_wp2
  go_loopw [3, 4] (fun o i wr => ∃ k : Nat, k ≤ n ∧ i = .int .i64 k ∧ wr.ownsRow w.heap.size 3 1 o (upMiles ps k) (fl1 (owners (ps.take k))) ∧ Below w.heap.size w wr) (fun _ i _ => n - (intOf i).toNat)
  case atStart => exact ⟨0, by omega, rfl, own_empty w 3 1, (Below.refl _ _).alloc (Nat.le_refl _) _⟩
  case round =>
    obtain ⟨k, hk, rfl, hrow, hbw⟩ := hrel
    by_cases hlt : k < n
    · have hlp : k < ps.length := by rw [Hl.out]; exact hlt
      obtain ⟨b, off, rfl, hb, hc⟩ := hr.at2 hlp
      obtain ⟨hx, hy⟩ := hc k hlp
      obtain ⟨f1, f2, f3, f4⟩ := partsValid_at Hv.out k hlp
      have hM := upMiles_le Hv.out k (by rw [Hl.out]; exact hk)
      clear hc
      go_wp2
      go_loopw [3, 5] (fun o j wi => ∃ q : Nat, q ≤ (b2 ps k).toNat ∧ j = .int .i64 q ∧ wi.ownsRow w.heap.size 3 1 o (upMiles ps k + q) (fl1 (owners (ps.take k) ++ List.replicate q (a2 ps k))) ∧ Below w.heap.size w wi) (fun _ j _ => (b2 ps k).toNat - (intOf j).toNat)
      case atStart => exact ⟨0, by omega, rfl, by rw [List.replicate_zero, List.append_nil]; exact hrow, hbw⟩
      case round =>
        obtain ⟨q, hq, rfl, hroq, hbq⟩ := hrel
        have hx' := (hbq.cell (p := ⟨b, off + k * 2, none⟩) hb).trans hx
        have hy' := (hbq.cell (p := ⟨b, off + k * 2 + 1, none⟩) hb).trans hy
        clear hx hy hrow hbw
        by_cases hql : q < (b2 ps k).toNat
        · have hqi : (q : Int) < b2 ps k := by omega
          go_wp2_with (at_builtin; refine wpList_append_own _ rfl (.tmp 22) (.tmp 28) 34 rfl w.heap.size 3 i0 _ 1 8 Try.underlying34 hi hz0 hz1 hz2 rfl (by decide) _ _ _ rfl (hroq.alloc _) ⟨wr.heap.size, 0, none⟩ 1 1 [.int .i64 (a2 ps k)] rfl rfl (cell_one_new _ _ _) (by simp [Value.oneCell']) (by unfold maxLen; omega) (by omega) (by have := hbq.size; simp; omega) ?_; intro v' w1 hown' hgrow hnn; clear hnn)
          go_roundw
          case rel => exact ⟨q + 1, by omega, by go_num, by rw [rep_snoc, ← List.append_assoc, fl1_snoc]; exact hown', (hbq.alloc hbq.size _).grown hgrow (Nat.le_trans hbq.size (by simp)) (fun g hg => (hroq.lt g hg).1)⟩
          case measure => simp [intOf]; omega
        · obtain rfl : q = (b2 ps k).toNat := by omega
          have hqi : b2 ps k ≤ ((b2 ps k).toNat : Int) := by omega
          go_wp2
          go_roundw
          case rel => exact ⟨k + 1, by omega, by go_num, by rw [upMiles_succ ps k hlp, owners_snoc ps k hlp]; exact hroq, hbq⟩
          case measure => simp [intOf]; omega
    · obtain rfl : k = n := by omega
      have hle : upMiles ps k = (owners ps).length := by rw [owners_len, Hl.out]
      rw [List.take_of_length_le (Nat.le_of_eq Hl.out), hle] at hrow
      obtain ⟨A', c', rfl⟩ := own_form hrow
      go_wp2
      go_ret
      exact ⟨_, _, rfl, hrow, hbw⟩

set_option maxHeartbeats 1000000 in
theorem specPartsOwner_any (A : Option Addr) (ps : List (Int × Int)) (n cap : Nat) (mile : Int) (w : World) (hl : ps.length = n) (hn : n ≤ 1048576) (hr : Rd w A (fl2 ps)) :
    Calls Try.prog 25 #[.slice A n cap, .int .i64 mile] w (Ret w (.tuple #[.int .i64 (partsOwner ps mile).1, .bool (partsOwner ps mile).2])) := by
  by_cases hc : partsValid ps = true ∧ 0 ≤ mile ∧ mile < (owners ps).length
  · have hp : partsOwner ps mile = ((owners ps).getD mile.toNat 0, true) := by unfold partsOwner; rw [if_pos hc]
    rw [hp]
    obtain ⟨hv, h0, h1⟩ := hc
    have hole := owners_le hv
    have hpl : partsLength ps = (owners ps).length := by rw [partsLength, if_pos hv, sumB_owners hv]
    have Hv := hideIt hv
    have Hpl := hideIt hpl
    clear hv hp hpl
    obtain ⟨m, rfl⟩ := Int.eq_ofNat_of_zero_le h0
    have hm : m < (owners ps).length := by omega
    go_enter Try.func25, Try.ntmps25
    go_wp2_with fail
    refine (specPartsLength_any _ _ _ _ _ hl hn hr).mono ?_
    rw [Hpl.out]
    rintro e w1 ⟨rfl, hb1⟩
    go_wp2_with fail
    refine (l6In_t _ _ _ _ (by omega) (by omega)).mono ?_
    rintro e w' ⟨rfl, rfl⟩
    go_wp2_with fail
    refine (l5Owners_any _ _ _ _ _ hl (hr.below hb1 (Nat.le_refl _)) Hv.out).mono ?_
    rintro e w2 ⟨A2, c2, rfl, ho2, hb2⟩
    obtain ⟨b, off, rfl, hb, hcc⟩ := (Rd.of_own ho2).at1 hm
    have hx := hcc m hm
    clear hcc
    go_wp2
    go_ret2
    exact ⟨rfl, hb1.trans (hb2.mono hb1.size)⟩
  · have hp : partsOwner ps mile = (0, false) := by unfold partsOwner; rw [if_neg hc]
    rw [hp]
    have hnot : mile < 0 ∨ partsLength ps - 1 < mile := by
      unfold partsLength
      split
      · rename_i hv
        rw [sumB_owners hv]
        by_cases h0 : 0 ≤ mile
        · right
          have : ¬ mile < (owners ps).length := fun h => hc ⟨hv, h0, h⟩
          omega
        · left; omega
      · by_cases h0 : 0 ≤ mile
        · right; omega
        · left; omega
    have hlo : -1 ≤ partsLength ps ∧ partsLength ps ≤ 2000 := by
      unfold partsLength
      split
      · rename_i hv
        rw [sumB_owners hv]
        have := owners_le hv
        omega
      · omega
    clear hp hc
    go_enter Try.func25, Try.ntmps25
    go_wp2_with fail
    refine (specPartsLength_any _ _ _ _ _ hl hn hr).mono ?_
    rintro e w1 ⟨rfl, hb1⟩
    go_wp2_with fail
    refine (l6In_f _ _ _ _ hnot).mono ?_
    rintro e w' ⟨rfl, rfl⟩
    go_wp2
    go_ret2
    exact ⟨rfl, hb1⟩
end Go.Proofs.Ytfnpkbfgemcbaaa

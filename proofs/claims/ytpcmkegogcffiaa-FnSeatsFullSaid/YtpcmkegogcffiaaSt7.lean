/- Walks: SeatsFull, of the program and of the reference. -/
import Derived.Test.YtpcmkegogcffiaaSt6
namespace Go.Proofs.Ytpcmkegogcffiaa
open Go.RowKit

/-- all seats of a leg are booked -/
def isFull (ls : List (Int × Int × Bool)) (k : Nat) : Bool := decide (taken ls k true = 4) && decide (taken ls k false = 6)
/-- the full legs ahead of leg k -/
def fullTo (ls : List (Int × Int × Bool)) : Nat → List Int
  | 0 => []
  | k + 1 => fullTo ls k ++ (if isFull ls k = true then [(k : Int)] else [])
def seatsFull (n : Int) (ls : List (Int × Int × Bool)) : List Int := if bValid n ls = true then fullTo ls n.toNat else []
theorem seatsFull_f {n : Int} {ls : List (Int × Int × Bool)} (h : bValid n ls = false) : seatsFull n ls = [] := by rw [seatsFull, h]; rfl
theorem seatsFull_t {n : Nat} {ls : List (Int × Int × Bool)} (h : bValid n ls = true) : seatsFull n ls = fullTo ls n := by rw [seatsFull, h, if_pos rfl, Int.toNat_natCast]
theorem fullTo_le (ls : List (Int × Int × Bool)) (k : Nat) : (fullTo ls k).length ≤ k := by
  induction k with
  | zero => simp [fullTo]
  | succ k ih =>
    unfold fullTo
    rw [List.length_append]
    split <;> simp <;> omega
theorem seatsFull_le (n : Int) (ls : List (Int × Int × Bool)) : (seatsFull n ls).length ≤ 1048576 := by
  unfold seatsFull; split
  · have := bValid_parts ‹_›
    have := fullTo_le ls n.toNat
    omega
  · simp
theorem fullTo_yes {ls : List (Int × Int × Bool)} {k : Nat} (h : isFull ls k = true) : fl1 (fullTo ls (k + 1)) = fl1 (fullTo ls k) ++ [.int .i64 k] := by rw [fullTo, h, if_pos rfl, fl1_snoc]
theorem fullTo_no {ls : List (Int × Int × Bool)} {k : Nat} (h : isFull ls k = false) : fullTo ls (k + 1) = fullTo ls k := by rw [fullTo, h]; simp
theorem isFull_of {ls : List (Int × Int × Bool)} {k : Nat} {x y : Int} (hx : taken ls k true = x) (hy : taken ls k false = y) : isFull ls k = (decide (x = 4) && decide (y = 6)) := by rw [isFull, hx, hy]

set_option maxRecDepth 100000 in
set_option maxHeartbeats 1000000 in
theorem implSeatsFull_any (n : Int) (A : Option Addr) (ls : List (Int × Int × Bool)) (m cap : Nat) (w : World) (hl : ls.length = m) (hm : m ≤ 1048576) (hr : Rd w A (flB ls)) :
    Calls Try.prog 13 #[.int .i64 n, .slice A m cap] w (RetS w 3 1 (seatsFull n ls).length (fl1 (seatsFull n ls))) := by
  obtain ⟨i0, hi, hz0, hz1, hz2⟩ := info_parts info_int
  cases hv : bValid n ls
  · rw [seatsFull_f hv]
    have Hv := hideIt hv
    clear hv
    go_enter Try.func13, Try.ntmps13
    go_wp2_with fail
    refine (implBookingsValid_any _ _ _ _ _ _ _ hl hm (hr.alloc _) Hv.out).mono ?_
    rintro e w1 ⟨rfl, hb1⟩
    go_wp2
    go_ret
    exact ⟨_, _, rfl, own_below (own_empty w 3 1) hb1 (Nat.le_refl _), ((Below.refl _ _).alloc (Nat.le_refl _) _).trans (hb1.mono (by simp))⟩
  · obtain ⟨nn, rfl⟩ := bValid_nat hv
    obtain ⟨q1, q2, q3, q4, q5⟩ := bValid_parts hv
    rw [seatsFull_t hv]
    have Hv := hideIt hv
    have Hall := hideIt (AllB.mono q4 (show (nn : Int) ≤ 8 by omega))
    have Hl := hideIt hl
    rw [hl] at q3
    clear hv q4 q5 hl
    go_enter Try.func13, Try.ntmps13
    go_wp2_with fail
    refine (implBookingsValid_any _ _ _ _ _ _ _ Hl.out hm (hr.alloc _) Hv.out).mono ?_
    rintro e w1 ⟨rfl, hb1⟩
    have ho1 := own_below (own_empty w 3 1) hb1 (Nat.le_refl _)
    have hbw1 := ((Below.refl w.heap.size w).alloc (Nat.le_refl _) (.cells #[] 3)).trans (hb1.mono (by simp))
    go_wp2
    go_loopw [5, 14] (fun o i wr => ∃ k q : Nat, k ≤ nn ∧ q ≤ k ∧ i = .int .i64 k ∧ wr.ownsRow w.heap.size 3 1 o q (fl1 (fullTo ls k)) ∧ Below w.heap.size w wr) (fun _ i _ => nn - (intOf i).toNat)
    case atStart => exact ⟨0, 0, by omega, by omega, rfl, ho1, hbw1⟩
    case round =>
      clear ho1 hbw1
      obtain ⟨k, q, hk, hq, rfl, hrow, hbw⟩ := hrel
      by_cases hlt : k < nn
      · obtain ⟨x, hx⟩ : ∃ x, taken ls k true = x := ⟨_, rfl⟩
        obtain ⟨y, hy⟩ : ∃ x, taken ls k false = x := ⟨_, rfl⟩
        have Hf := hideIt (isFull_of hx hy)
        have Hx := hideIt hx
        have Hy := hideIt hy
        clear hx hy
        by_cases e1 : x = 4
        · subst e1
          by_cases e2 : y = 6
          · subst e2
            go_wp2_with fail
            refine (takenOn_any _ _ _ _ _ _ _ Hl.out hm (hr.below hbw (Nat.le_refl _)) Hall.out (by omega)).mono ?_
            rw [Hx.out]
            rintro e w2 ⟨rfl, hb2⟩
            have hrow2 := own_below hrow hb2 (Nat.le_refl _)
            have hbw2 := hbw.trans (hb2.mono hbw.size)
            clear hrow hbw
            go_wp2_with fail
            refine (takenOn_any _ _ _ _ _ _ _ Hl.out hm (hr.below hbw2 (Nat.le_refl _)) Hall.out (by omega)).mono ?_
            rw [Hy.out]
            rintro e w3 ⟨rfl, hb3⟩
            have hrow3 := own_below hrow2 hb3 (Nat.le_refl _)
            have hbw3 := hbw2.trans (hb3.mono hbw2.size)
            clear hrow2 hbw2
            go_wp2_with (at_builtin; refine wpList_append_own _ rfl (.tmp 27) (.tmp 29) 26 rfl w.heap.size 3 i0 _ 1 8 Try.underlying26 hi hz0 hz1 hz2 rfl (by decide) _ _ _ rfl (hrow3.alloc _) ⟨_, 0, none⟩ 1 1 [.int .i64 ((k : Int))] rfl rfl (cell_one_new _ _ _) (by simp [Value.oneCell']) (by unfold maxLen; omega) (by omega) ((by have := hbw3.size; simp; omega)) ?_; intro v' wn hown' hgrow hnn; clear hnn)
            go_roundw
            case rel => exact ⟨k + 1, q + 1, by omega, by omega, by go_num, by rw [fullTo_yes Hf.out]; exact hown', (hbw3.alloc hbw3.size _).grown hgrow (Nat.le_trans hbw3.size (by simp)) (fun g hg => (hrow3.lt g hg).1)⟩
            case measure => simp [intOf]; omega
          · have hf' : isFull ls k = false := by rw [Hf.out]; simp [e2]
            have Hf' := hideIt hf'
            clear hf' Hf
            go_wp2_with fail
            refine (takenOn_any _ _ _ _ _ _ _ Hl.out hm (hr.below hbw (Nat.le_refl _)) Hall.out (by omega)).mono ?_
            rw [Hx.out]
            rintro e w2 ⟨rfl, hb2⟩
            have hrow2 := own_below hrow hb2 (Nat.le_refl _)
            have hbw2 := hbw.trans (hb2.mono hbw.size)
            clear hrow hbw
            go_wp2_with fail
            refine (takenOn_any _ _ _ _ _ _ _ Hl.out hm (hr.below hbw2 (Nat.le_refl _)) Hall.out (by omega)).mono ?_
            rw [Hy.out]
            rintro e w3 ⟨rfl, hb3⟩
            have hrow3 := own_below hrow2 hb3 (Nat.le_refl _)
            have hbw3 := hbw2.trans (hb3.mono hbw2.size)
            clear hrow2 hbw2
            go_wp2
            go_roundw
            case rel => exact ⟨k + 1, q, by omega, by omega, by go_num, by rw [fullTo_no Hf'.out]; exact hrow3, hbw3⟩
            case measure => simp [intOf]; omega
        · have hf' : isFull ls k = false := by rw [Hf.out]; simp [e1]
          have Hf' := hideIt hf'
          clear hf' Hf
          go_wp2_with fail
          refine (takenOn_any _ _ _ _ _ _ _ Hl.out hm (hr.below hbw (Nat.le_refl _)) Hall.out (by omega)).mono ?_
          rw [Hx.out]
          rintro e w2 ⟨rfl, hb2⟩
          have hrow2 := own_below hrow hb2 (Nat.le_refl _)
          have hbw2 := hbw.trans (hb2.mono hbw.size)
          clear hrow hbw
          go_wp2
          go_roundw
          case rel => exact ⟨k + 1, q, by omega, by omega, by go_num, by rw [fullTo_no Hf'.out]; exact hrow2, hbw2⟩
          case measure => simp [intOf]; omega
      · obtain rfl : k = nn := by omega
        obtain rfl : (fullTo ls k).length = q := row_len enc1_len (by omega) hrow
        obtain ⟨A', c', rfl⟩ := own_form hrow
        go_wp2
        go_ret
        exact ⟨_, _, rfl, hrow, hbw⟩

set_option maxRecDepth 100000 in
set_option maxHeartbeats 1000000 in
theorem specSeatsFull_any (n : Int) (A : Option Addr) (ls : List (Int × Int × Bool)) (m cap : Nat) (w : World) (hl : ls.length = m) (hm : m ≤ 1048576) (hr : Rd w A (flB ls)) :
    Calls Try.prog 14 #[.int .i64 n, .slice A m cap] w (RetS w 3 1 (seatsFull n ls).length (fl1 (seatsFull n ls))) := by
  obtain ⟨i0, hi, hz0, hz1, hz2⟩ := info_parts info_int
  cases hv : bValid n ls
  · rw [seatsFull_f hv]
    have Hv := hideIt hv
    have Hl := hideIt hl
    clear hv hl
    have ho := own_empty w 3 1
    have hb0 := (Below.refl w.heap.size w).alloc (Nat.le_refl _) (.cells #[] 3)
    go_enter Try.func14, Try.ntmps14
    go_wp2
    go_loopw [5, 6] (fun o i wr => o = .slice (some ⟨w.heap.size, 0, none⟩) 0 0 ∧ i = .int .i64 0 ∧ wr = w.alloc (.cells #[] 3)) (fun _ _ _ => 0)
    case atStart => exact ⟨rfl, rfl, rfl⟩
    case round =>
      obtain ⟨rfl, rfl, rfl⟩ := hrel
      by_cases h0 : 0 < n
      · go_wp2_with fail
        refine (specBookingsValid_any _ _ _ _ _ _ _ Hl.out hm (hr.alloc _) Hv.out).mono ?_
        rintro e w1 ⟨rfl, hb1⟩
        go_wp2
        go_ret
        exact ⟨_, _, rfl, own_below ho hb1 (Nat.le_refl _), hb0.trans (hb1.mono hb0.size)⟩
      · go_wp2
        go_ret
        exact ⟨_, _, rfl, ho, hb0⟩
  · obtain ⟨nn, rfl⟩ := bValid_nat hv
    obtain ⟨q1, q2, q3, q4, q5⟩ := bValid_parts hv
    rw [seatsFull_t hv]
    have Hv := hideIt hv
    have Hl := hideIt hl
    rw [hl] at q3
    clear hv q4 q5 hl
    go_enter Try.func14, Try.ntmps14
    go_wp2
    go_loopw [5, 6] (fun o i wr => ∃ k q : Nat, k ≤ nn ∧ q ≤ k ∧ i = .int .i64 k ∧ wr.ownsRow w.heap.size 3 1 o q (fl1 (fullTo ls k)) ∧ Below w.heap.size w wr) (fun _ i _ => nn - (intOf i).toNat)
    case atStart => exact ⟨0, 0, by omega, by omega, rfl, own_empty w 3 1, (Below.refl _ _).alloc (Nat.le_refl _) _⟩
    case round =>
      obtain ⟨k, q, hk, hq, rfl, hrow, hbw⟩ := hrel
      by_cases hlt : k < nn
      · obtain ⟨x, hx⟩ : ∃ x, taken ls k true = x := ⟨_, rfl⟩
        obtain ⟨y, hy⟩ : ∃ x, taken ls k false = x := ⟨_, rfl⟩
        have Hf := hideIt (isFull_of hx hy)
        have Hx := hideIt hx
        have Hy := hideIt hy
        clear hx hy
        go_wp2_with fail
        refine (specBookingsValid_any _ _ _ _ _ _ _ Hl.out hm (hr.below hbw (Nat.le_refl _)) Hv.out).mono ?_
        rintro e w1 ⟨rfl, hb1⟩
        have hrow1 := own_below hrow hb1 (Nat.le_refl _)
        have hbw1 := hbw.trans (hb1.mono hbw.size)
        clear hrow hbw
        go_wp2_with fail
        refine (l4Taken_any _ _ _ _ _ _ _ Hl.out hm (hr.below hbw1 (Nat.le_refl _))).mono ?_
        rw [Hx.out]
        rintro e w2 ⟨rfl, rfl⟩
        by_cases e1 : x = 4
        · subst e1
          go_wp2_with fail
          refine (l4Taken_any _ _ _ _ _ _ _ Hl.out hm (hr.below hbw1 (Nat.le_refl _))).mono ?_
          rw [Hy.out]
          rintro e w2 ⟨rfl, rfl⟩
          by_cases e2 : y = 6
          · subst e2
            go_wp2_with (at_builtin; refine wpList_append_own _ rfl (.tmp 28) (.tmp 30) 26 rfl w.heap.size 3 i0 _ 1 8 Try.underlying26 hi hz0 hz1 hz2 rfl (by decide) _ _ _ rfl (hrow1.alloc _) ⟨_, 0, none⟩ 1 1 [.int .i64 ((k : Int))] rfl rfl (cell_one_new _ _ _) (by simp [Value.oneCell']) (by unfold maxLen; omega) (by omega) ((by have := hbw1.size; simp; omega)) ?_; intro v' wn hown' hgrow hnn; clear hnn)
            go_roundw
            case rel => exact ⟨k + 1, q + 1, by omega, by omega, by go_num, by rw [fullTo_yes Hf.out]; exact hown', (hbw1.alloc hbw1.size _).grown hgrow (Nat.le_trans hbw1.size (by simp)) (fun g hg => (hrow1.lt g hg).1)⟩
            case measure => simp [intOf]; omega
          · have hf' : isFull ls k = false := by rw [Hf.out]; simp [e2]
            have Hf' := hideIt hf'
            clear hf' Hf
            go_wp2
            go_roundw
            case rel => exact ⟨k + 1, q, by omega, by omega, by go_num, by rw [fullTo_no Hf'.out]; exact hrow1, hbw1⟩
            case measure => simp [intOf]; omega
        · have hf' : isFull ls k = false := by rw [Hf.out]; simp [e1]
          have Hf' := hideIt hf'
          clear hf' Hf
          go_wp2
          go_roundw
          case rel => exact ⟨k + 1, q, by omega, by omega, by go_num, by rw [fullTo_no Hf'.out]; exact hrow1, hbw1⟩
          case measure => simp [intOf]; omega
      · obtain rfl : k = nn := by omega
        obtain rfl : (fullTo ls k).length = q := row_len enc1_len (by omega) hrow
        obtain ⟨A', c', rfl⟩ := own_form hrow
        go_wp2
        go_ret
        exact ⟨_, _, rfl, hrow, hbw⟩
end Go.Proofs.Ytpcmkegogcffiaa

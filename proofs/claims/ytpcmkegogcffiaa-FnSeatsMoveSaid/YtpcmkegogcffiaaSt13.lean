/- Walks: SeatsMove, of the program and of the reference. -/
import Derived.Test.YtpcmkegogcffiaaSt11
import Derived.Deep.RegionHeld3
namespace Go.Proofs.Ytpcmkegogcffiaa
open Go.RowKit

/-- the booking with index k of the other kind -/
def flip (ls : List (Int × Int × Bool)) (k : Nat) : List (Int × Int × Bool) := ls.set k (aB ls k, bB ls k, !cB ls k)
theorem flip_len (ls : List (Int × Int × Bool)) (k : Nat) : (flip ls k).length = ls.length := by simp [flip]
/-- an index of a list -/
def inL (ls : List (Int × Int × Bool)) (k : Int) : Bool := decide (0 ≤ k) && decide (k < ls.length)
def moveOk (n : Int) (ls : List (Int × Int × Bool)) (k : Int) : Bool := bValid n ls && inL ls k && bValid n (flip ls k.toNat)
def seatsMove (n : Int) (ls : List (Int × Int × Bool)) (k : Int) : List (Int × Int × Bool) := if moveOk n ls k = true then flip ls k.toNat else []
theorem seatsMove_f {n : Int} {ls : List (Int × Int × Bool)} {k : Int} (h : moveOk n ls k = false) : seatsMove n ls k = [] := by rw [seatsMove, h]; rfl
theorem seatsMove_t {n : Int} {ls : List (Int × Int × Bool)} {k : Int} (h : moveOk n ls k = true) : seatsMove n ls k = flip ls k.toNat := by rw [seatsMove, h]; rfl
theorem seatsMove_le (n : Int) (ls : List (Int × Int × Bool)) (k : Int) : (seatsMove n ls k).length ≤ 1048576 := by
  unfold seatsMove; split
  · have h := ‹moveOk n ls k = true›
    simp only [moveOk, Bool.and_eq_true] at h
    have := (bValid_parts h.1.1).2.2.1
    rw [flip_len]; omega
  · simp
theorem rowB_storec {w : World} {base t g cap n : Nat} {xs : List (Int × Int × Bool)} (h : w.ownsRow base t 3 (.slice (some ⟨g, 0, none⟩) n cap) n (flB xs)) {k : Nat} (hk : k < xs.length) :
    (w.setCell ⟨g, k * 3 + 2, none⟩ (.bool (!cB xs k))).ownsRow base t 3 (.slice (some ⟨g, 0, none⟩) n cap) n (flB (flip xs k)) := by
  have h1 := (h.stored (k * 3 + 2) (.bool (!cB xs k))).1
  have e1 : (flB xs).set (k * 3 + 2) (.bool (!cB xs k)) = flB (flip xs k) :=
    flat_set encB 3 encB_len xs k 2 _ _ _ (getD_some xs k (0, 0, false) hk) (by omega) rfl
  rw [e1] at h1
  exact h1

set_option maxRecDepth 100000 in
set_option maxHeartbeats 1000000 in
theorem implSeatsMove_any (n : Int) (a : Addr) (ls : List (Int × Int × Bool)) (m cap : Nat) (k : Int) (w : World) (hl : ls.length = m) (hm : m ≤ 1048576) (hr : Rd w (some a) (flB ls)) :
    Calls Try.prog 29 #[.int .i64 n, .slice (some a) m cap, .int .i64 k] w (RetSB w 40 3 (seatsMove n ls k).length (flB (seatsMove n ls k)) (moveOk n ls k)) := by
  cases hv : bValid n ls
  · have Hv := hideIt hv
    clear hv
    have hj : moveOk n ls k = false := by rw [moveOk, Hv.out]; rfl
    rw [seatsMove_f hj, hj]
    clear hj
    go_enter Try.func29, Try.ntmps29
    go_wp2_with fail
    refine (implBookingsValid_any _ _ _ _ _ _ _ hl hm hr Hv.out).mono ?_
    rintro e w1 ⟨rfl, hb1⟩
    go_wp2
    go_ret2
    exact ⟨_, _, rfl, own_base (own_empty w1 40 3) hb1.size, hb1.alloc hb1.size _⟩
  have m16 := (bValid_parts hv).2.2.1
  rw [hl] at m16
  have Hv := hideIt hv
  clear hv
  by_cases hk : 0 ≤ k ∧ k < m
  rotate_left
  · have hj : moveOk n ls k = false := by
      rw [moveOk, Hv.out, inL, hl]
      by_cases h0 : 0 ≤ k
      · rw [decide_eq_false (p := k < (m : Int)) (fun h => hk ⟨h0, h⟩)]; simp
      · rw [decide_eq_false h0]; simp
    rw [seatsMove_f hj, hj]
    clear hj
    by_cases h0 : k < 0
    · clear hk
      go_enter Try.func29, Try.ntmps29
      go_wp2_with fail
      refine (implBookingsValid_any _ _ _ _ _ _ _ hl hm hr Hv.out).mono ?_
      rintro e w1 ⟨rfl, hb1⟩
      go_wp2
      go_ret2
      exact ⟨_, _, rfl, own_base (own_empty w1 40 3) hb1.size, hb1.alloc hb1.size _⟩
    · have h1 : (m : Int) ≤ k := by omega
      have h2 : 0 ≤ k := by omega
      clear hk h0
      go_enter Try.func29, Try.ntmps29
      go_wp2_with fail
      refine (implBookingsValid_any _ _ _ _ _ _ _ hl hm hr Hv.out).mono ?_
      rintro e w1 ⟨rfl, hb1⟩
      go_wp2
      go_ret2
      exact ⟨_, _, rfl, own_base (own_empty w1 40 3) hb1.size, hb1.alloc hb1.size _⟩
  obtain ⟨k0, k1⟩ := hk
  obtain ⟨k, rfl⟩ := Int.eq_ofNat_of_zero_le k0
  have k2 : k < m := by omega
  have hje : moveOk n ls k = bValid n (flip ls k) := by rw [moveOk, Hv.out, inL, hl, decide_eq_true k0, decide_eq_true k1, Int.toNat_natCast]; rfl
  cases hv : bValid n (flip ls k)
  all_goals
    have Hv3 := hideIt hv
    rw [hv] at hje
    have Hl := hideIt hl
    have Hje := hideIt hje
    have Hlf := hideIt (show (flip ls k).length = m by rw [flip_len, hl])
    clear hl hje hv
    go_enter Try.func29, Try.ntmps29
    go_wp2_with fail
    refine (implBookingsValid_any _ _ _ _ _ _ _ Hl.out hm hr Hv.out).mono ?_
    rintro e w1 ⟨rfl, hb1⟩
    go_wp2_with fail
    refine (cloneBooking_any _ _ _ _ _ Hl.out hm (hr.below hb1 (Nat.le_refl _))).mono ?_
    rintro e w2 ⟨A2, c2, rfl, ho2, hb2⟩
    obtain ⟨g, rfl, hg0, hg1⟩ := own_some ho2 (by omega)
    have hkl : k < ls.length := by rw [Hl.out]; exact k2
    obtain ⟨_, _, hcz⟩ := rowB_a ho2 hkl
    have hfr := fun j => ho2.frozenAt j
    have hst := rowB_storec ho2 hkl
    have hb12 := hb1.trans (hb2.mono hb1.size)
    have hbs := hb12.setCell (p := ⟨g, k * 3 + 2, none⟩) (Nat.le_trans hb1.size hg0) (.bool (!cB ls k))
    have hgw := Nat.le_trans hb1.size hg0
    clear ho2 hb2 hkl
    go_wp2_with fail
    refine (implBookingsValid_any _ _ _ _ _ _ _ Hlf.out hm (Rd.of_own hst) Hv3.out).mono ?_
    rintro e w4 ⟨rfl, hb4⟩
    have hbo4 := hbs.trans (hb4.mono hbs.size)
    go_wp2
    go_ret2
    rw [Hje.out]
  · rw [seatsMove_f Hje.out]
    exact ⟨_, _, rfl, own_base (own_empty w4 40 3) hbo4.size, hbo4.alloc hbo4.size _⟩
  · rw [seatsMove_t Hje.out, Int.toNat_natCast, Hlf.out]
    exact ⟨_, _, rfl, own_base (own_below hst hb4 (Nat.le_refl _)) hb1.size, hbo4⟩
set_option maxRecDepth 100000 in
set_option maxHeartbeats 1000000 in
theorem specSeatsMove_any (n : Int) (a : Addr) (ls : List (Int × Int × Bool)) (m cap : Nat) (k : Int) (w : World) (hl : ls.length = m) (hm : m ≤ 1048576) (hr : Rd w (some a) (flB ls)) :
    Calls Try.prog 30 #[.int .i64 n, .slice (some a) m cap, .int .i64 k] w (RetSB w 40 3 (seatsMove n ls k).length (flB (seatsMove n ls k)) (moveOk n ls k)) := by
  obtain ⟨i0, hi, hz0, hz1, hz2⟩ := info_parts info_Booking
  cases hv : bValid n ls
  · have Hv := hideIt hv
    clear hv
    have hj : moveOk n ls k = false := by rw [moveOk, Hv.out]; rfl
    rw [seatsMove_f hj, hj]
    clear hj
    go_enter Try.func30, Try.ntmps30
    go_wp2_with fail
    refine (specBookingsValid_any _ _ _ _ _ _ _ hl hm hr Hv.out).mono ?_
    rintro e w1 ⟨rfl, hb1⟩
    go_wp2
    go_ret2
    exact ⟨_, _, rfl, own_base (own_empty w1 40 3) hb1.size, hb1.alloc hb1.size _⟩
  have m16 := (bValid_parts hv).2.2.1
  rw [hl] at m16
  have Hv := hideIt hv
  clear hv
  by_cases hk : 0 ≤ k ∧ k < m
  rotate_left
  · have hj : moveOk n ls k = false := by
      rw [moveOk, Hv.out, inL, hl]
      by_cases h0 : 0 ≤ k
      · rw [decide_eq_false (p := k < (m : Int)) (fun h => hk ⟨h0, h⟩)]; simp
      · rw [decide_eq_false h0]; simp
    rw [seatsMove_f hj, hj]
    clear hj
    have h0 : k < 0 ∨ (m : Int) - 1 < k := by omega
    clear hk
    go_enter Try.func30, Try.ntmps30
    go_wp2_with fail
    refine (specBookingsValid_any _ _ _ _ _ _ _ hl hm hr Hv.out).mono ?_
    rintro e w1 ⟨rfl, hb1⟩
    go_wp2_with fail
    refine (l6In_f _ _ _ _ h0).mono ?_
    rintro e w' ⟨rfl, rfl⟩
    go_wp2
    go_ret2
    exact ⟨_, _, rfl, own_base (own_empty w1 40 3) hb1.size, hb1.alloc hb1.size _⟩
  obtain ⟨k0, k1⟩ := hk
  obtain ⟨k, rfl⟩ := Int.eq_ofNat_of_zero_le k0
  have k2 : k < m := by omega
  have hje : moveOk n ls k = bValid n (flip ls k) := by rw [moveOk, Hv.out, inL, hl, decide_eq_true k0, decide_eq_true k1, Int.toNat_natCast]; rfl
  cases hv : bValid n (flip ls k)
  all_goals
    have Hv3 := hideIt hv
    rw [hv] at hje
    have Hl := hideIt hl
    have Hje := hideIt hje
    have Hlf := hideIt (show (flip ls k).length = m by rw [flip_len, hl])
    have Hfl := hideIt (show (flB ls).length = m * 3 by rw [flB_len, hl])
    clear hl hje hv
    go_enter Try.func30, Try.ntmps30
    go_wp2_with fail
    refine (specBookingsValid_any _ _ _ _ _ _ _ Hl.out hm hr Hv.out).mono ?_
    rintro e w1 ⟨rfl, hb1⟩
    go_wp2_with fail
    refine (l6In_t _ _ _ _ (by omega) (by omega)).mono ?_
    rintro e w' ⟨rfl, rfl⟩
    go_wp2_with (at_builtin; refine wpList_append_own _ rfl (.tmp 22) (.tmp 23) 23 rfl w1.heap.size 40 i0 _ 3 24 Try.underlying23 hi hz0 hz1 hz2 rfl (by decide) _ _ _ rfl (own_empty w1 40 3) a m cap (flB ls) rfl Hfl.out ((hr.below hb1 (Nat.le_refl _)).alloc _).news (flB_one ls) (by unfold maxLen; omega) (by omega) (by simp) ?_; intro v2 w2 ho2 hgr2 hnn2; clear hnn2; rw [Nat.zero_add, List.nil_append] at ho2; have hb2 : Below w1.heap.size w1 w2 := ((Below.refl _ _).alloc (Nat.le_refl _) _).grown hgr2 (by simp) (by intro k hk; cases hk; exact Nat.le_refl _); obtain ⟨A2, c2, rfl⟩ := own_form ho2; obtain ⟨g, rfl, hg0, hg1⟩ := own_some ho2 (by omega); have hkl : k < ls.length := (by rw [Hl.out]; exact k2); obtain ⟨_, _, hcz⟩ := rowB_a ho2 hkl; have hfr := fun j => ho2.frozenAt j; have hst := rowB_storec ho2 hkl; have hb12 := hb1.trans (hb2.mono hb1.size); have hbs := hb12.setCell (p := ⟨g, k * 3 + 2, none⟩) (Nat.le_trans hb1.size hg0) (.bool (!cB ls k)); clear ho2 hb2 hkl hgr2)
    refine (specBookingsValid_any _ _ _ _ _ _ _ Hlf.out hm (Rd.of_own hst) Hv3.out).mono ?_
    rintro e w4 ⟨rfl, hb4⟩
    have hbo4 := hbs.trans (hb4.mono hbs.size)
    go_wp2
    go_ret2
    rw [Hje.out]
  · rw [seatsMove_f Hje.out]
    exact ⟨_, _, rfl, own_base (own_empty w4 40 3) hbo4.size, hbo4.alloc hbo4.size _⟩
  · rw [seatsMove_t Hje.out, Int.toNat_natCast, Hlf.out]
    exact ⟨_, _, rfl, own_base (own_below hst hb4 (Nat.le_refl _)) hb1.size, hbo4⟩
end Go.Proofs.Ytpcmkegogcffiaa

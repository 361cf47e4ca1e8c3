/- Walks: the exact laws' helpers for Booking. Printed by gen_rec.py. -/
import Derived.Test.YtmghlddpojeapaaProg
import Derived.Test.YtmghlddpojeapaaBase
import Derived.StillTailTactics
namespace Go.Proofs.Ytmghlddpojeapaa
open Go.RowKit

theorem rowB_a {w : World} {base t g cap n : Nat} {xs : List (Int × Int × Bool)} (h : w.ownsRow base t 3 (.slice (some ⟨g, 0, none⟩) n cap) n (flB xs)) {k : Nat} (hk : k < xs.length) :
    w.cell? ⟨g, k * 3, none⟩ = some (.int .i64 (aB xs k)) ∧ w.cell? ⟨g, k * 3 + 1, none⟩ = some (.int .i64 (bB xs k)) ∧ w.cell? ⟨g, k * 3 + 2, none⟩ = some (.bool (cB xs k)) := by
  have hl := h.1
  rw [flB_len] at hl
  exact ⟨(h.cellAt (k * 3) (by omega)).trans (flB_a xs k hk), (h.cellAt (k * 3 + 1) (by omega)).trans (flB_b xs k hk), (h.cellAt (k * 3 + 2) (by omega)).trans (flB_c xs k hk)⟩
theorem rowB_store {w : World} {base t g cap n : Nat} {xs : List (Int × Int × Bool)} (h : w.ownsRow base t 3 (.slice (some ⟨g, 0, none⟩) n cap) n (flB xs)) {k : Nat} (hk : k < xs.length) (a b : Int) (c : Bool) :
    (((w.setCell ⟨g, k * 3, none⟩ (.int .i64 a)).setCell ⟨g, k * 3 + 1, none⟩ (.int .i64 b)).setCell ⟨g, k * 3 + 2, none⟩ (.bool c)).ownsRow base t 3 (.slice (some ⟨g, 0, none⟩) n cap) n (flB (xs.set k (a, b, c))) := by
  have h1 := (h.stored (k * 3) (.int .i64 a)).1
  have h2 := (h1.stored (k * 3 + 1) (.int .i64 b)).1
  have h3 := (h2.stored (k * 3 + 2) (.bool c)).1
  have e1 : (flB xs).set (k * 3) (.int .i64 a) = flB (xs.set k (a, bB xs k, cB xs k)) :=
    flat_set encB 3 encB_len xs k 0 _ _ _ (getD_some xs k (0, 0, false) hk) (by omega) rfl
  rw [e1] at h3
  have e2 : (flB (xs.set k (a, bB xs k, cB xs k))).set (k * 3 + 1) (.int .i64 b) = flB ((xs.set k (a, bB xs k, cB xs k)).set k (a, b, cB xs k)) :=
    flat_set encB 3 encB_len _ k 1 (a, bB xs k, cB xs k) _ _ (by rw [List.getElem?_set_self hk]) (by omega) rfl
  rw [e2, List.set_set] at h3
  have e3 : (flB (xs.set k (a, b, cB xs k))).set (k * 3 + 2) (.bool c) = flB ((xs.set k (a, b, cB xs k)).set k (a, b, c)) :=
    flat_set encB 3 encB_len _ k 2 (a, b, cB xs k) _ _ (by rw [List.getElem?_set_self hk]) (by omega) rfl
  rw [e3, List.set_set] at h3
  exact h3
def markB (k0 : Int) (n : Nat) : List (Int × Int × Bool) := (List.range n).map fun (i : Nat) => (k0 + 3 * i, k0 + 3 * i + 1, (k0 + 3 * i + 1 + 1) % 3 == 0)
theorem markB_len (k0 : Int) (n : Nat) : (markB k0 n).length = n := by simp [markB]
theorem markB_at (k0 : Int) (n k : Nat) (h : k < n) : aB (markB k0 n) k = k0 + 3 * k ∧ bB (markB k0 n) k = k0 + 3 * k + 1 ∧ cB (markB k0 n) k = ((k0 + 3 * k + 1 + 1) % 3 == 0) := by simp [aB, bB, cB, markB, h]

theorem szBookingS_yes (A : Option Addr) (n cap : Nat) (left : Int) (w : World) (h : n ≤ left) (hl : left ≤ 1048576) :
    Calls Try.prog 15 #[.slice A n cap, .int .i64 left] w fun e w' => e = .returned (.int .i64 (left - n)) ∧ w = w' := by
  go_enter Try.func15, Try.ntmps15
  go_wp2
  go_ret
  exact ⟨rfl, rfl⟩
theorem szBookingS_no (A : Option Addr) (n cap : Nat) (left : Int) (w : World) (h : left < n) (h0 : 0 ≤ left) (hl : n ≤ 9223372036854775807) :
    Calls Try.prog 15 #[.slice A n cap, .int .i64 left] w fun e w' => e = .returned (.int .i64 (-1)) ∧ w = w' := by
  go_enter Try.func15, Try.ntmps15
  go_wp2
  go_ret
  exact ⟨rfl, rfl⟩
theorem toBooking_any (a b : Int) (c : Bool) (w : World) :
    Calls Try.prog 41 #[.agg #[.int .i64 a, .int .i64 b, .bool c]] w (Ret w (.agg #[.int .i64 a, .int .i64 b, .bool c])) := by
  go_enter Try.func41, Try.ntmps41
  go_wp2
  refine bodyPost_ret (v := .agg #[.int .i64 a, .int .i64 b, .bool c]) (by simp [results, Try.results41, go_sem]) rfl ⟨rfl, ?_⟩
  exact (((Below.refl _ _).alloc (Nat.le_refl _) _).alloc (by simp) _).alloc (by simp; omega) _
theorem info_Booking : (Try.prog.info? 49).map (fun i => (i.zero, i.size, i.bytes)) = some (some (.agg #[.int .i64 0, .int .i64 0, .bool false]), 3, 24) := by kernel_rfl
/-- the first k records written, the rest zero -/
def halfB (ps : List (Int × Int × Bool)) (k : Nat) : List (Int × Int × Bool) := ps.take k ++ List.replicate (ps.length - k) (0, 0, false)
theorem halfB_len (ps : List (Int × Int × Bool)) (k : Nat) (h : k ≤ ps.length) : (halfB ps k).length = ps.length := by simp [halfB]; omega
theorem halfB_zero (ps : List (Int × Int × Bool)) : halfB ps 0 = List.replicate ps.length (0, 0, false) := by simp [halfB]
theorem halfB_end (ps : List (Int × Int × Bool)) : halfB ps ps.length = ps := by simp [halfB]
theorem halfB_set (ps : List (Int × Int × Bool)) (k : Nat) (h : k < ps.length) : (halfB ps k).set k (aB ps k, bB ps k, cB ps k) = halfB ps (k + 1) := by
  unfold halfB aB bB cB
  apply List.ext_getElem?
  intro j
  by_cases hj : j = k
  · subst hj
    rw [List.getElem?_set_self (by simp; omega)]
    rw [List.getElem?_append_left (by simp; omega)]
    simp [h]
  · rw [List.getElem?_set_ne (by omega)]
    by_cases hlt : j < k
    · rw [List.getElem?_append_left (by simp; omega), List.getElem?_append_left (by simp; omega)]
      rw [List.getElem?_take_of_lt (by omega), List.getElem?_take_of_lt (by omega)]
    · rw [List.getElem?_append_right (by simp; omega), List.getElem?_append_right (by simp; omega)]
      simp only [List.length_take, List.getElem?_replicate]
      rw [show min k ps.length = k by omega, show min (k + 1) ps.length = k + 1 by omega]
      by_cases h2 : j - k < ps.length - k
      · rw [if_pos h2, if_pos (by omega)]
      · rw [if_neg h2, if_neg (by omega)]
theorem madeB (n : Nat) : (madeCells #[.int .i64 0, .int .i64 0, .bool false] (n * 3)).toList = flB (List.replicate n (0, 0, false)) := by
  apply List.ext_getElem?
  intro j
  by_cases hj : j < n * 3
  · have hk : j / 3 < (List.replicate n ((0, 0, false) : Int × Int × Bool)).length := by simp; omega
    have := flat_get encB 3 encB_len (List.replicate n (0, 0, false)) (j / 3) (j % 3) (0, 0, false) (by rw [List.getElem?_replicate, if_pos (by omega)]) (by omega)
    rw [show j / 3 * 3 + j % 3 = j by omega] at this
    unfold flB
    rw [this]
    have hm : j % 3 = 0 ∨ j % 3 = 1 ∨ j % 3 = 2 := by omega
    rcases hm with hm | hm | hm <;> simp [madeCells, hj, hm, encB]
  · rw [List.getElem?_eq_none (by simp [size_madeCells]; omega), List.getElem?_eq_none (by rw [flB_len]; simp; omega)]
set_option maxHeartbeats 400000 in
theorem toBookingS_any (A : Option Addr) (ps : List (Int × Int × Bool)) (n cap : Nat) (w : World) (hl : ps.length = n) (hn : n ≤ 1048576) (hr : Rd w A (flB ps)) :
    Calls Try.prog 17 #[.slice A n cap] w (RetG w 49 3 n (flB ps)) := by
  subst hl
  obtain ⟨i0, hi, hz0, hz1, hz2⟩ := info_parts info_Booking
  go_enter Try.func17, Try.ntmps17
  go_wp2_with (refine wpList_make_full _ rfl _ _ _ rfl w.heap.size 49 i0 _ 3 Try.underlying25 hi hz0 hz1 .i64 .i64 _ _ ps.length rfl rfl rfl rfl (by rw [hz2]; omega) (by unfold maxLen; omega) (Nat.le_refl _) ?_; intro w1 hown hgrow)
  have hbw1 : Below w.heap.size w w1 := (Below.refl _ _).grown hgrow (Nat.le_refl _) (by simp)
  go_loopw [4] (fun i wr => ∃ k : Nat, k ≤ ps.length ∧ i = .int .i64 k ∧ wr.ownsRow w.heap.size 49 3 (.slice (some ⟨w.heap.size, 0, none⟩) ps.length ps.length) ps.length (flB (halfB ps k)) ∧ Below w.heap.size w wr)
    (fun i _ => ps.length - (intOf i).toNat)
  case atStart => exact ⟨0, by omega, rfl, by rw [halfB_zero, ← madeB]; exact hown, hbw1⟩
  case round =>
    obtain ⟨k, hk, rfl, hrow, hbw⟩ := hrel
    clear hown hgrow hbw1
    by_cases hlt : k < ps.length
    · obtain ⟨b, off, rfl, hb, hc⟩ := hr.atB hlt
      obtain ⟨hx, hy, hz⟩ := hc k hlt
      rw [← hbw.cell (p := ⟨b, off + k * 3, none⟩) hb] at hx
      rw [← hbw.cell (p := ⟨b, off + k * 3 + 1, none⟩) hb] at hy
      rw [← hbw.cell (p := ⟨b, off + k * 3 + 2, none⟩) hb] at hz
      clear hc hr
      go_wp2_with fail
      refine (toBooking_any _ _ _ _).mono ?_
      rintro e w2 ⟨rfl, hb2⟩
      have hrow2 := own_below hrow hb2 (Nat.le_refl _)
      have hk2 : k < (halfB ps k).length := by rw [halfB_len ps k hk]; exact hlt
      have hl2 : (halfB ps k).length = ps.length := halfB_len ps k hk
      have hcells := rowB_a hrow2 hk2
      have hfr := fun j => hrow2.frozenAt j
      have hst := rowB_store hrow2 hk2 (aB ps k) (bB ps k) (cB ps k)
      rw [halfB_set ps k hlt] at hst
      obtain ⟨hca, hcb, hcc⟩ := hcells
      have hbw2 := hbw.trans (hb2.mono hbw.size)
      clear hrow hrow2 hl2
      go_wp2
      go_roundw
      case rel => exact ⟨k + 1, by omega, by go_num, hst, ((hbw2.setCell (by simp) _).setCell (by simp) _).setCell (by simp) _⟩
      case measure => simp [intOf]; omega
    · go_wp2
      go_ret
      obtain rfl : k = ps.length := by omega
      exact ⟨_, _, rfl, by rw [halfB_end] at hrow; exact hrow, hbw⟩

theorem eqBooking_any (a b : Int) (c : Bool) (d f : Int) (g : Bool) (w : World) (r : Bool) (hr : ((decide (a = d) && decide (b = f)) && decide (c = g)) = r) :
    Calls Try.prog 55 #[.agg #[.int .i64 a, .int .i64 b, .bool c], .agg #[.int .i64 d, .int .i64 f, .bool g]] w (Ret w (.bool r)) := by
  subst hr
  go_enter Try.func55, Try.ntmps55
  go_wp2
  all_goals go_ret
  all_goals refine ⟨ret_bool ?_, ((Below.refl _ _).alloc (Nat.le_refl _) _).alloc (by simp) _⟩
  all_goals simp_all

set_option maxRecDepth 100000 in
set_option maxHeartbeats 1000000 in
theorem eqBookingS_any (A B : Option Addr) (ps qs : List (Int × Int × Bool)) (n m cap cap' : Nat) (w : World) (hl : ps.length = n) (hl' : qs.length = m) (hn : n ≤ 1048576) (hm : m ≤ 1048576) (hr : Rd w A (flB ps)) (hs : Rd w B (flB qs)) :
    Calls Try.prog 19 #[.slice A n cap, .slice B m cap'] w (Ret w (.bool (decide (ps = qs)))) := by
  subst hl
  subst hl'
  by_cases hne : ps.length = qs.length
  · rw [← hne]
    rw [← hne] at hm
    go_enter Try.func19, Try.ntmps19
    go_wp2
    go_loopw [5] (fun i wr => ∃ k : Nat, k ≤ ps.length ∧ i = .int .i64 k ∧ decide (ps.drop k = qs.drop k) = decide (ps = qs) ∧ Below w.heap.size w wr) (fun i _ => ps.length - (intOf i).toNat)
    case atStart => exact ⟨0, by omega, rfl, rfl, Below.refl _ _⟩
    case round =>
      obtain ⟨k, hk, rfl, hrec, hbw⟩ := hrel
      have Hrec := hideIt hrec
      have Hne := hideIt hne
      clear hrec hne
      by_cases hlt : k < ps.length
      · obtain ⟨b, off, rfl, hb, hc⟩ := hr.atB hlt
        obtain ⟨b', off', rfl, hb', hc'⟩ := hs.atB (k := k) (by rw [← Hne.out]; exact hlt)
        obtain ⟨hx, hy, hz⟩ := hc k hlt
        obtain ⟨hx', hy', hz'⟩ := hc' k (by rw [← Hne.out]; exact hlt)
        rw [← hbw.cell (p := ⟨b, off + k * 3, none⟩) hb] at hx
        rw [← hbw.cell (p := ⟨b, off + k * 3 + 1, none⟩) hb] at hy
        rw [← hbw.cell (p := ⟨b, off + k * 3 + 2, none⟩) hb] at hz
        rw [← hbw.cell (p := ⟨b', off' + k * 3, none⟩) hb'] at hx'
        rw [← hbw.cell (p := ⟨b', off' + k * 3 + 1, none⟩) hb'] at hy'
        rw [← hbw.cell (p := ⟨b', off' + k * 3 + 2, none⟩) hb'] at hz'
        clear hc hc' hr hs
        go_wp2
        go_still_tail 8, (by kernel_rfl)
        have hst := hideIt (eq_stepB ps qs k hlt (by rw [← Hne.out]; exact hlt))
        cases he : ((decide (aB ps k = aB qs k) && decide (bB ps k = bB qs k)) && decide (cB ps k = cB qs k))
        · have He := hideIt he
          clear he
          go_wp2_with (go_at_call 55; refine (eqBooking_any _ _ _ _ _ _ _ false He.out).mono ?_; rintro e w2 ⟨rfl, hb2⟩)
          go_ret
          refine ⟨ret_bool ?_, hbw.drew.trans (hb2.mono hbw.size)⟩
          rw [← Hrec.out, hst.out, He.out, Bool.false_and]
        · have He := hideIt he
          clear he
          go_wp2_with (go_at_call 55; refine (eqBooking_any _ _ _ _ _ _ _ true He.out).mono ?_; rintro e w2 ⟨rfl, hb2⟩)
          go_roundw
          case rel => exact ⟨k + 1, by omega, by go_num, by rw [← Hrec.out, hst.out, He.out, Bool.true_and], hbw.drew.trans (hb2.mono hbw.size)⟩
          case measure => simp [intOf]; omega
      · go_wp2
        go_ret
        obtain rfl : k = ps.length := by omega
        refine ⟨ret_bool ?_, hbw⟩
        rw [← Hrec.out]
        simp [Hne.out]
  · have hne' : ((ps.length : Int) == (qs.length : Int)) = false := by simp; omega
    go_enter Try.func19, Try.ntmps19
    go_wp2
    go_ret
    refine ⟨ret_bool ?_, Below.refl _ _⟩
    rw [eq_comm]
    simp
    rintro rfl
    exact hne rfl

set_option maxHeartbeats 400000 in
theorem heldBookingS_any (A : Option Addr) (n cap : Nat) (k0 : Int) (w : World) (hn : n ≤ 1048576) (h0 : 0 ≤ k0) (h1 : k0 ≤ 100000000) (hr : Rd w A (flB (markB k0 n))) :
    Calls Try.prog 33 #[.slice A n cap, .int .i64 k0] w fun e w' => e = .returned (.int .i64 (k0 + 3 * n)) ∧ w = w' := by
  go_enter Try.func33, Try.ntmps33
  go_wp2
  go_loop [1, 5] (fun q i => ∃ k : Nat, k ≤ n ∧ i = .int .i64 k ∧ q = .int .i64 (k0 + 3 * k)) (fun _ i => n - (intOf i).toNat)
  case atStart => exact ⟨0, by omega, rfl, by simp⟩
  case round =>
    obtain ⟨k, hk, rfl, rfl⟩ := hrel
    by_cases hlt : k < n
    · obtain ⟨b, off, rfl, hb, hc⟩ := hr.atB (k := k) (by rw [markB_len]; exact hlt)
      obtain ⟨hx, hy, hz⟩ := hc k (by rw [markB_len]; exact hlt)
      rw [(markB_at k0 n k hlt).1] at hx
      rw [(markB_at k0 n k hlt).2.1] at hy
      rw [(markB_at k0 n k hlt).2.2] at hz
      clear hc hr
      go_wp2
      go_round
      case rel => exact ⟨k + 1, by omega, by go_num, by congr 1; omega⟩
      case measure => simp [intOf]; omega
    · go_wp2
      go_ret
      obtain rfl : k = n := by omega
      exact ⟨rfl, rfl⟩

set_option maxHeartbeats 400000 in
theorem markBookingS_any (A : Option Addr) (ps : List (Int × Int × Bool)) (n base cap : Nat) (k0 : Int) (w : World) (hl : ps.length = n) (hn : n ≤ 1048576) (h0 : 0 ≤ k0) (h1 : k0 ≤ 100000000)
    (hown : w.ownsRow base 49 3 (.slice A n cap) n (flB ps)) :
    Calls Try.prog 28 #[.slice A n cap, .int .i64 k0] w fun e w' => e = .returned (.int .i64 (k0 + 3 * n)) ∧
      w'.ownsRow base 49 3 (.slice A n cap) n (flB (markB k0 n)) ∧ w.grownBy w' (Value.slice A n cap).ownBlock := by
  have Hl := hideIt hl
  clear hl
  go_enter Try.func28, Try.ntmps28
  go_wp2
  go_loopw [1, 5] (fun q i wr => ∃ k : Nat, k ≤ n ∧ i = .int .i64 k ∧ q = .int .i64 (k0 + 3 * k) ∧ wr.ownsRow base 49 3 (.slice A n cap) n (flB (markB k0 k ++ ps.drop k)) ∧ w.grownBy wr (Value.slice A n cap).ownBlock) (fun _ i _ => n - (intOf i).toNat)
  case atStart => exact ⟨0, by omega, rfl, by simp, by simpa [markB] using hown, World.grownBy.refl _ _⟩
  case round =>
    obtain ⟨k, hk, rfl, rfl, hrow, hgr⟩ := hrel
    clear hown
    by_cases hlt : k < n
    · obtain ⟨g, rfl, hbg, hlg⟩ := own_some hrow (by omega)
      have hlk : k < (markB k0 k ++ ps.drop k).length := by rw [markB, mark_len _ _ _ (by rw [Hl.out]; exact hk), Hl.out]; exact hlt
      obtain ⟨hx, hy, hz⟩ := rowB_a hrow hlk
      have hfr := fun j => hrow.frozenAt j
      have hst := rowB_store hrow hlk (k0 + 3 * k) (k0 + 3 * k + 1) ((k0 + 3 * k + 1 + 1) % 3 == 0)
      rw [markB, mark_set (fun (i : Nat) => ((k0 + 3 * i, k0 + 3 * i + 1, (k0 + 3 * i + 1 + 1) % 3 == 0) : Int × Int × Bool)) ps k (by rw [Hl.out]; exact hlt)] at hst
      clear hrow hlk
      go_wp2
      go_roundw
      case rel => exact ⟨k + 1, by omega, by go_num, by congr 1; omega, hst, only_setCell (p := ⟨g, k * 3 + 2, none⟩) (only_setCell (p := ⟨g, k * 3 + 1, none⟩) (only_setCell (p := ⟨g, k * 3, none⟩) hgr (.inl rfl) _) (.inl rfl) _) (.inl rfl) _⟩
      case measure => simp [intOf]; omega
    · go_wp2
      go_ret
      obtain rfl : k = n := by omega
      rw [List.drop_eq_nil_of_le (by rw [Hl.out]; omega), List.append_nil] at hrow
      exact ⟨rfl, hrow, hgr⟩
end Go.Proofs.Ytmghlddpojeapaa

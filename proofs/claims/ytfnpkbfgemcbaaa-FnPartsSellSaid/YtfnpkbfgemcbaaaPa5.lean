/- Walks: PartsTurn, of the program and of the reference; slices.Clone and slices.Reverse at parts. -/
import Derived.Test.YtfnpkbfgemcbaaaPa3
import Derived.BigRegion
import Derived.WalkSpells
import Derived.Lib.LazyBuf
namespace Go.Proofs.Ytfnpkbfgemcbaaa
open Go.RowKit

theorem only_drew {a w : World} {row : Option Nat} (h : a.grownBy w row) : a.grownBy w.drew row := ⟨h.os, h.tape, h.output, h.size, h.block⟩

set_option maxHeartbeats 400000 in
theorem clonePart_any (a : Addr) (ps : List (Int × Int)) (n cap : Nat) (w : World) (hl : ps.length = n) (hn : n ≤ 1048576) (hr : Rd w (some a) (fl2 ps)) :
    Calls Try.prog 53 #[.slice (some a) n cap] w (RetS w 38 2 n (fl2 ps)) := by
  obtain ⟨i0, hi, hz0, hz1, hz2⟩ := info_parts info_Part
  have hnil := fun w => Lib.run_eql_slice_nil (P := Try.prog) w 24 38 (some a) n cap 0 0 Try.underlying24
  go_enter Try.func53, Try.ntmps53
  have Hl := hideIt (show (fl2 ps).length = n * 2 by rw [fl2_len, hl])
  clear hl
  go_wp2_with (at_builtin; refine wpList_append_own _ rfl (.tmp 5) (.tmp 6) 24 rfl w.heap.size 38 i0 _ 2 16 Try.underlying24 hi hz0 hz1 hz2 rfl (by decide) _ _ _ rfl (own_empty w 38 2) a n cap (fl2 ps) rfl Hl.out (hr.alloc _).news (fl2_one ps) (by unfold maxLen; omega) (by omega) (by simp) ?_; intro v' w1 hown' hgrow _)
  rw [Nat.zero_add, List.nil_append] at hown'
  have hbw : Below w.heap.size w w1 := ((Below.refl _ _).alloc (Nat.le_refl _) _).grown hgrow (by simp) (by intro k hk; cases hk; exact Nat.le_refl _)
  obtain ⟨A', cap', rfl⟩ := own_form hown'
  go_wp2
  go_ret
  exact ⟨_, _, rfl, hown', hbw⟩

set_option maxHeartbeats 1000000 in
theorem reversePart_any (A : Option Addr) (ps : List (Int × Int)) (n base cap : Nat) (w : World) (hl : ps.length = n) (hn : n ≤ 1048576)
    (hown : w.ownsRow base 38 2 (.slice A n cap) n (fl2 ps)) :
    Calls Try.prog 54 #[.slice A n cap] w fun e w' => e = .returned (.tuple #[]) ∧
      w'.ownsRow base 38 2 (.slice A n cap) n (fl2 ps.reverse) ∧ w.grownBy w' (Value.slice A n cap).ownBlock := by
  have Hl := hideIt hl
  clear hl
  go_enter Try.func54, Try.ntmps54
  go_wp2
  go_loopw [2, 3] (fun p q wr => ∃ (i : Nat) (j : Int), p = .int .i64 i ∧ q = .int .i64 j ∧ j = n - 1 - i ∧ 2 * i ≤ n ∧ wr.ownsRow base 38 2 (.slice A n cap) n (fl2 (revTo (0, 0) ps i)) ∧ w.grownBy wr (Value.slice A n cap).ownBlock)
    (fun p _ _ => n - (intOf p).toNat)
  case atStart => exact ⟨0, _, rfl, rfl, by omega, by omega, by rw [revTo_zero]; exact hown, World.grownBy.refl _ _⟩
  case round =>
    obtain ⟨i, j, rfl, rfl, hj, hi2, hrow, hgr⟩ := hrel
    clear hown
    by_cases hlt : (i : Int) < j
    · obtain ⟨jn, rfl⟩ := Int.eq_ofNat_of_zero_le (show 0 ≤ j by omega)
      have hjn : jn = ps.length - 1 - i := by rw [Hl.out]; omega
      have hi3 : 2 * i + 1 < ps.length := by rw [Hl.out]; omega
      have b1 : jn < n := by omega
      have b2' : i < n := by omega
      have Hj := hideIt hj
      obtain ⟨g, rfl, hbg, hlg⟩ := own_some hrow (by omega)
      have hA1 := row2_a hrow (k := i) (by rw [revTo_len]; omega)
      have hA2 := row2_a hrow (k := jn) (by rw [revTo_len]; omega)
      have ei : a2 (revTo (0, 0) ps i) i = a2 ps i ∧ b2 (revTo (0, 0) ps i) i = b2 ps i := by unfold a2 b2; rw [revTo_at _ _ _ _ (Nat.le_refl _) (by omega)]; exact ⟨rfl, rfl⟩
      have ej : a2 (revTo (0, 0) ps i) jn = a2 ps jn ∧ b2 (revTo (0, 0) ps i) jn = b2 ps jn := by unfold a2 b2; rw [revTo_at _ _ _ _ (by omega) (by omega)]; exact ⟨rfl, rfl⟩
      rw [ei.1, ei.2] at hA1
      rw [ej.1, ej.2] at hA2
      obtain ⟨hx1, hy1⟩ := hA1
      obtain ⟨hx2, hy2⟩ := hA2
      have hfr := fun j => hrow.frozenAt j
      have hst := row2_store (row2_store hrow (k := i) (by rw [revTo_len]; omega) (a2 ps jn) (b2 ps jn)) (k := jn) (by rw [List.length_set, revTo_len]; omega) (a2 ps i) (b2 ps i)
      have hset := revTo_set (0, 0) ps i hi3
      rw [← hjn] at hset
      have hst' := hst
      rw [show (((revTo (0, 0) ps i).set i (a2 ps jn, b2 ps jn)).set jn (a2 ps i, b2 ps i)) = revTo (0, 0) ps (i + 1) from hset] at hst'
      clear hst hset ei ej hrow hj hjn
      go_wp2
      go_region
      go_wp2
      go_roundw
      case rel => exact ⟨i + 1, (jn : Int) - 1, by go_num, by go_num, by have := Hj.out; omega, by have := Hl.out; omega, hst',
        only_drew (only_setCell (p := ⟨g, jn * 2 + 1, none⟩) (only_setCell (p := ⟨g, jn * 2, none⟩) (only_setCell (p := ⟨g, i * 2 + 1, none⟩) (only_setCell (p := ⟨g, i * 2, none⟩) hgr (.inl rfl) _) (.inl rfl) _) (.inl rfl) _) (.inl rfl) _)⟩
      case measure => simp [intOf]; omega
    · go_wp2
      go_end0
      rw [revTo_end _ _ _ (by rw [Hl.out]; omega)] at hrow
      exact ⟨rfl, hrow, hgr⟩

/-- what PartsTurn returns -/
def partsTurn (ps : List (Int × Int)) : List (Int × Int) := if partsValid ps = true then ps.reverse else []

theorem partsTurn_le (ps : List (Int × Int)) (n : Nat) (hl : ps.length = n) (hn : n ≤ 1048576) : (partsTurn ps).length ≤ 1048576 := by
  unfold partsTurn; split
  · rw [List.length_reverse]; omega
  · simp

set_option maxHeartbeats 400000 in
theorem implPartsTurn_any (a : Addr) (ps : List (Int × Int)) (n cap : Nat) (w : World) (hl : ps.length = n) (hn : n ≤ 1048576) (hr : Rd w (some a) (fl2 ps)) :
    Calls Try.prog 26 #[.slice (some a) n cap] w (RetSB w 38 2 (partsTurn ps).length (fl2 (partsTurn ps)) (partsValid ps)) := by
  cases hv : partsValid ps
  · have Hv := hideIt hv
    clear hv
    have hpt : partsTurn ps = [] := by rw [partsTurn, Hv.out]; rfl
    rw [hpt]
    go_enter Try.func26, Try.ntmps26
    go_wp2_with fail
    refine (implPartsValid_any _ _ _ _ _ _ hl hn hr Hv.out).mono ?_
    rintro e w1 ⟨rfl, hb1⟩
    go_wp2
    go_ret2
    exact ⟨_, _, rfl, own_base (own_empty w1 38 2) hb1.size, hb1.alloc hb1.size _⟩
  · have Hv := hideIt hv
    clear hv
    have hpt : partsTurn ps = ps.reverse := by rw [partsTurn, Hv.out]; rfl
    rw [hpt, List.length_reverse, hl]
    go_enter Try.func26, Try.ntmps26
    go_wp2_with fail
    refine (implPartsValid_any _ _ _ _ _ _ hl hn hr Hv.out).mono ?_
    rintro e w1 ⟨rfl, hb1⟩
    go_wp2_with fail
    refine (clonePart_any _ _ _ _ _ hl hn (hr.below hb1 (Nat.le_refl _))).mono ?_
    rintro e w2 ⟨A2, c2, rfl, ho2, hb2⟩
    go_wp2_with fail
    refine (reversePart_any _ _ _ _ _ _ hl hn ho2).mono ?_
    rintro e w3 ⟨rfl, ho3, hg3⟩
    go_wp2
    go_ret2
    exact ⟨_, _, rfl, own_base ho3 hb1.size, (hb1.trans (hb2.mono hb1.size)).grown hg3 (Nat.le_trans hb1.size hb2.size) (fun k hk => Nat.le_trans hb1.size (ho2.lt k hk).1)⟩

theorem snoc2 (ps : List (Int × Int)) (k m : Nat) (hm : m = ps.length - 1 - k) (hk : k < ps.length) : fl2 (ps.reverse.take (k + 1)) = fl2 (ps.reverse.take k) ++ [.int .i64 (a2 ps m), .int .i64 (b2 ps m)] := by
  rw [rev_snoc (0, 0) ps k hk, fl2, List.flatMap_append, hm]
  rfl

set_option maxHeartbeats 1000000 in
theorem specPartsTurn_any (A : Option Addr) (ps : List (Int × Int)) (n cap : Nat) (w : World) (hl : ps.length = n) (hn : n ≤ 1048576) (hr : Rd w A (fl2 ps)) :
    Calls Try.prog 29 #[.slice A n cap] w (RetSB w 38 2 (partsTurn ps).length (fl2 (partsTurn ps)) (partsValid ps)) := by
  obtain ⟨i0, hi, hz0, hz1, hz2⟩ := info_parts info_Part
  cases hv : partsValid ps
  · have Hv := hideIt hv
    clear hv
    have hpt : partsTurn ps = [] := by rw [partsTurn, Hv.out]; rfl
    rw [hpt]
    go_enter Try.func29, Try.ntmps29
    go_wp2
    go_loopw [4, 5] (fun o i wr => o = .slice (some ⟨w.heap.size, 0, none⟩) 0 0 ∧ i = .int .i64 ((n : Int) - 1) ∧ wr = w.alloc (.cells #[] 38)) (fun _ _ _ => 0)
    case atStart => exact ⟨rfl, rfl, rfl⟩
    case round =>
      obtain ⟨rfl, rfl, rfl⟩ := hrel
      have hv' : ∀ w', Calls Try.prog 39 #[.slice A n cap] (w.alloc (.cells #[] 38)) w' → Calls Try.prog 39 #[.slice A n cap] (w.alloc (.cells #[] 38)) w' := fun _ h => h
      by_cases h0 : 0 < n
      · have h1 : (0 : Int) ≤ (n : Int) - 1 := by omega
        go_wp2_with fail
        refine (specPartsValid_any _ _ _ _ _ _ hl hn (hr.alloc _) Hv.out).mono ?_
        rintro e w1 ⟨rfl, rfl⟩
        go_wp2_with fail
        refine (specPartsValid_any _ _ _ _ _ _ hl hn (hr.alloc _) Hv.out).mono ?_
        rintro e w1 ⟨rfl, rfl⟩
        go_wp2
        go_ret2
        exact ⟨_, _, rfl, own_empty w 38 2, (Below.refl _ _).alloc (Nat.le_refl _) _⟩
      · have h1 : (n : Int) - 1 < 0 := by omega
        go_wp2_with fail
        refine (specPartsValid_any _ _ _ _ _ _ hl hn (hr.alloc _) Hv.out).mono ?_
        rintro e w1 ⟨rfl, rfl⟩
        go_wp2
        go_ret2
        exact ⟨_, _, rfl, own_empty w 38 2, (Below.refl _ _).alloc (Nat.le_refl _) _⟩
  · have Hv := hideIt hv
    clear hv
    have hpt : partsTurn ps = ps.reverse := by rw [partsTurn, Hv.out]; rfl
    rw [hpt, List.length_reverse, hl]
    have Hl := hideIt hl
    go_enter Try.func29, Try.ntmps29
    go_wp2
    go_loopw [4, 5] (fun o i wr => ∃ (k : Nat) (j : Int), k ≤ n ∧ i = .int .i64 j ∧ j = n - 1 - k ∧ wr.ownsRow w.heap.size 38 2 o k (fl2 (ps.reverse.take k)) ∧ Below w.heap.size w wr) (fun _ i _ => (intOf i + 1).toNat)
    case atStart => exact ⟨0, _, by omega, rfl, by omega, by rw [List.take_zero]; exact own_empty w 38 2, (Below.refl _ _).alloc (Nat.le_refl _) _⟩
    case round =>
      obtain ⟨k, j, hk, rfl, hj, hrow, hbw⟩ := hrel
      have hrw := hr.below hbw (Nat.le_refl _)
      by_cases hlt : k < n
      · obtain ⟨m, rfl⟩ := Int.eq_ofNat_of_zero_le (show 0 ≤ j by omega)
        have hm : m < n := by omega
        have Hm := hideIt (show m = ps.length - 1 - k by rw [hl]; omega)
        have Hj := hideIt hj
        have hlp : m < ps.length := by rw [hl]; omega
        obtain ⟨b, off, rfl, hb, hc⟩ := hrw.at2 hlp
        obtain ⟨hx, hy⟩ := hc m hlp
        clear hc hj
        go_wp2_with fail
        refine (specPartsValid_any _ _ _ _ _ _ hl hn hrw Hv.out).mono ?_
        rintro e w1 ⟨rfl, rfl⟩
        clear hl hlp hr hrw
        go_wp2_with (at_builtin; refine wpList_append_own _ rfl (.tmp 18) (.tmp 23) 24 rfl w.heap.size 38 i0 _ 2 16 Try.underlying24 hi hz0 hz1 hz2 rfl (by decide) _ _ _ rfl (hrow.alloc _) ⟨wr.heap.size, 0, none⟩ 1 1 [.int .i64 (a2 ps m), .int .i64 (b2 ps m)] rfl rfl (cell_two_new _ _ _ _) (by simp [Value.oneCell']) (by unfold maxLen; omega) (by omega) (by have := hbw.size; simp; omega) ?_; intro v' w1 hown' hgrow _)
        go_roundw
        case rel => exact ⟨k + 1, (m : Int) - 1, by omega, rfl, by have := Hj.out; omega, by rw [snoc2 ps k m Hm.out (by have := Hl.out; omega)]; exact hown', (hbw.alloc hbw.size _).grown hgrow (Nat.le_trans hbw.size (by simp)) (fun g hg => (hrow.lt g hg).1)⟩
        case measure => simp [intOf]
      · go_wp2_with fail
        refine (specPartsValid_any _ _ _ _ _ _ hl hn hrw Hv.out).mono ?_
        rintro e w1 ⟨rfl, rfl⟩
        obtain rfl : k = n := by omega
        obtain ⟨A', cap', rfl⟩ := own_form hrow
        go_wp2
        go_ret2
        rw [List.take_of_length_le (Nat.le_of_eq (by rw [List.length_reverse, hl]))] at hrow
        exact ⟨_, _, rfl, hrow, hbw⟩
end Go.Proofs.Ytfnpkbfgemcbaaa

/- Walks: slices.Grow of nil, slices.Concat of two, PartsJoin of the program and of the reference. -/
import Derived.Test.YtingidljlfblnaaPa3
import Derived.Lib.AppendZeros
namespace Go.Proofs.Ytingidljlfblnaa
open Go.RowKit

set_option maxHeartbeats 400000 in
theorem growPart_any (n : Nat) (w : World) (hn : n ≤ 4194304) :
    Calls Try.prog 67 #[.slice none 0 0, .int .i64 n] w (RetS w 55 2 0 []) := by
  obtain ⟨i0, hi, hz0, hz1, hz2⟩ := info_parts info_Part
  by_cases h0 : n = 0
  · subst h0
    go_enter Try.func67, Try.ntmps67
    go_wp2
    go_ret
    exact ⟨none, 0, rfl, World.ownsRow_nil _ _ _ _, Below.refl _ _⟩
  · have hp : (0 : Int) < (n : Int) := by omega
    have hrun := Lib.run_append_nil_zeros (P := Try.prog) w 25 3 25 55 i0 (.agg #[.int .i64 0, .int .i64 0]) .i64 .i64 Try.underlying25 Try.underlying3 hi hz0 n (by omega) (by rw [hz1]; omega) (by omega) (by rw [hz2]; omega)
    have hcap := grownCap_ge w n 0 55
    have hcm : grownCap w n 0 55 ≤ maxLen := grownCap_le_maxLen w n 0 55 (by unfold maxLen; omega)
    obtain ⟨c, hc⟩ : ∃ c, grownCap w n 0 55 = c := ⟨_, rfl⟩
    rw [hc] at hrun hcap hcm
    obtain ⟨cs, hcs⟩ : ∃ cs, Builtin.zeroCells (Value.agg #[.int .i64 0, .int .i64 0]).cells n ++ Builtin.zeroCells (Value.agg #[.int .i64 0, .int .i64 0]).cells (c - n) = cs := ⟨_, rfl⟩
    have hsz : cs.size = c * 2 := by rw [← hcs]; simp [size_zeroCells, Value.cells]; omega
    rw [hcs] at hrun
    clear hcs hc h0
    have Hsz := hideIt hsz
    have Hcm := hideIt hcm
    have Hrun := hideIt hrun
    clear hsz hcm hrun
    have hown : (w.drew.alloc (.cells cs 55)).ownsRow w.heap.size 55 2 (.slice (some ⟨w.heap.size, 0, none⟩) 0 c) 0 [] :=
      ⟨by simp, .inr ⟨w.heap.size, c, cs, rfl, Nat.le_refl _, heap_alloc_new w.drew _, Nat.zero_le _, Hcm.out, Hsz.out, by simp⟩⟩
    go_enter Try.func67, Try.ntmps67
    go_wp2_with (at_builtin; refine Lib.wpList_append_run _ rfl (.tmp 20) (.tmp 21) 25 3 rfl _ _ rfl rfl _ _ Hrun.out ?_)
    go_ret
    exact ⟨_, _, rfl, hown, ((Below.refl _ _).alloc (Nat.le_refl _) _).drew⟩

set_option maxHeartbeats 1000000 in
theorem concatPart_any (bb : Nat) (a b : Addr) (ps qs : List (Int × Int)) (n m c d : Nat) (w : World) (hl : ps.length = n) (hl' : qs.length = m) (hn : n ≤ 1048576) (hm : m ≤ 1048576)
    (hr : Rd w (some a) (fl2 ps)) (hs : Rd w (some b) (fl2 qs)) (hb : bb < w.heap.size)
    (h0 : w.cell? ⟨bb, 0, none⟩ = some (.slice (some a) n c)) (h1 : w.cell? ⟨bb, 1, none⟩ = some (.slice (some b) m d)) :
    Calls Try.prog 56 #[.slice (some ⟨bb, 0, none⟩) 2 2] w (RetS w 55 2 (n + m) (fl2 (ps ++ qs))) := by
  obtain ⟨i0, hi, hz0, hz1, hz2⟩ := info_parts info_Part
  have Hl := hideIt (show (fl2 ps).length = n * 2 by rw [fl2_len, hl])
  have Hl' := hideIt (show (fl2 qs).length = m * 2 by rw [fl2_len, hl'])
  clear hl hl'
  go_enter Try.func56, Try.ntmps56
  go_wp2
  go_loop [3, 11] (fun s i => (i = .int .i64 0 ∧ s = .int .i64 0) ∨ (i = .int .i64 1 ∧ s = .int .i64 n) ∨ (i = .int .i64 2 ∧ s = .int .i64 ((n + m : Nat) : Int))) (fun _ i => 2 - (intOf i).toNat)
  case atStart => exact .inl ⟨rfl, rfl⟩
  case round =>
    rcases hrel with ⟨rfl, rfl⟩ | ⟨rfl, rfl⟩ | ⟨rfl, rfl⟩
    · go_wp2
      go_round
      case rel => exact .inr (.inl ⟨rfl, rfl⟩)
      case measure => simp [intOf]
    · go_wp2
      go_round
      case rel => exact .inr (.inr ⟨rfl, by go_num⟩)
      case measure => simp [intOf]
    · go_wp2_with fail
      refine (growPart_any (n + m) _ (by omega)).mono ?_
      rintro e w1 ⟨A1, c1, rfl, ho1, hb1⟩
      have h01 := (hb1.cell (p := ⟨bb, 0, none⟩) hb).trans h0
      have hr1 := hr.below hb1 (Nat.le_refl _)
      clear h0 hr
      go_wp2
      go_loopw [6, 27] (fun v i wr => (i = .int .i64 0 ∧ v = .slice A1 0 c1 ∧ wr = w1) ∨ (i = .int .i64 1 ∧ wr.ownsRow w.heap.size 55 2 v n (fl2 ps) ∧ Below w.heap.size w wr) ∨ (i = .int .i64 2 ∧ wr.ownsRow w.heap.size 55 2 v (n + m) (fl2 (ps ++ qs)) ∧ Below w.heap.size w wr)) (fun _ i _ => 2 - (intOf i).toNat)
      case atStart => exact .inl ⟨rfl, rfl, rfl⟩
      case round =>
        rcases hrel with ⟨rfl, rfl, rfl⟩ | ⟨rfl, hown, hbw⟩ | ⟨rfl, hown, hbw⟩
        · go_wp2_with (at_builtin; refine wpList_append_own _ rfl (.tmp 31) (.tmp 32) 25 rfl w.heap.size 55 i0 _ 2 16 Try.underlying25 hi hz0 hz1 hz2 rfl (by decide) _ _ _ rfl ho1 a n c (fl2 ps) rfl Hl.out hr1.news (fl2_one ps) (by unfold maxLen; omega) (by omega) hb1.size ?_; intro v' w2 hown' hgrow _)
          go_roundw
          case rel => exact .inr (.inl ⟨rfl, by rw [Nat.zero_add, List.nil_append] at hown'; exact hown', hb1.grown hgrow hb1.size (fun k hk => (ho1.lt k hk).1)⟩)
          case measure => simp [intOf]
        · have h11 := (hbw.cell (p := ⟨bb, 1, none⟩) hb).trans h1
          have hs1 := hs.below hbw (Nat.le_refl _)
          clear h1 hs ho1 hb1
          go_wp2_with (at_builtin; refine wpList_append_own _ rfl (.tmp 31) (.tmp 32) 25 rfl w.heap.size 55 i0 _ 2 16 Try.underlying25 hi hz0 hz1 hz2 rfl (by decide) _ _ _ rfl hown b m d (fl2 qs) rfl Hl'.out hs1.news (fl2_one qs) (by unfold maxLen; omega) (by omega) hbw.size ?_; intro v' w2 hown' hgrow _)
          go_roundw
          case rel => exact .inr (.inr ⟨rfl, by rw [fl2, List.flatMap_append]; exact hown', hbw.grown hgrow hbw.size (fun k hk => (hown.lt k hk).1)⟩)
          case measure => simp [intOf]
        · obtain ⟨A', cap', rfl⟩ := own_form hown
          go_wp2
          go_ret
          exact ⟨_, _, rfl, hown, hbw⟩

/-- what PartsJoin returns -/
def joinOk (ps qs : List (Int × Int)) : Bool := partsValid ps && partsValid qs && partsValid (ps ++ qs)
def partsJoin (ps qs : List (Int × Int)) : List (Int × Int) := if joinOk ps qs = true then ps ++ qs else []
theorem partsJoin_le (ps qs : List (Int × Int)) (n m : Nat) (hl : ps.length = n) (hl' : qs.length = m) (h : n + m ≤ 1048576) : (partsJoin ps qs).length ≤ 1048576 := by
  unfold partsJoin; split
  · rw [List.length_append]; omega
  · simp

set_option maxHeartbeats 1000000 in
theorem implPartsJoin_any (a b : Addr) (ps : List (Int × Int)) (n c : Nat) (qs : List (Int × Int)) (m d : Nat) (w : World) (hl : ps.length = n) (hn : n ≤ 1048576) (hr : Rd w (some a) (fl2 ps)) (hl' : qs.length = m) (hm : m ≤ 1048576) (hs : Rd w (some b) (fl2 qs)) :
    Calls Try.prog 29 #[.slice (some a) n c, .slice (some b) m d] w (RetSB w 55 2 (partsJoin ps qs).length (fl2 (partsJoin ps qs)) (joinOk ps qs)) := by
  cases hv : partsValid ps
  · have Hv := hideIt hv
    clear hv
    have hj : joinOk ps qs = false := by rw [joinOk, Hv.out]; rfl
    have hp : partsJoin ps qs = [] := by rw [partsJoin, hj]; rfl
    rw [hp, hj]
    clear hp hj
    go_enter Try.func29, Try.ntmps29
    go_wp2_with fail
    refine (implPartsValid_any _ _ _ _ _ _ hl hn hr Hv.out).mono ?_
    rintro e w1 ⟨rfl, hb1⟩
    go_wp2
    go_ret2
    exact ⟨_, _, rfl, own_base (own_empty w1 55 2) hb1.size, hb1.alloc hb1.size _⟩
  have Hv := hideIt hv
  clear hv
  cases hv : partsValid qs
  · have Hv2 := hideIt hv
    clear hv
    have hj : joinOk ps qs = false := by rw [joinOk, Hv2.out, Bool.and_false]; rfl
    have hp : partsJoin ps qs = [] := by rw [partsJoin, hj]; rfl
    rw [hp, hj]
    clear hp hj
    go_enter Try.func29, Try.ntmps29
    go_wp2_with fail
    refine (implPartsValid_any _ _ _ _ _ _ hl hn hr Hv.out).mono ?_
    rintro e w1 ⟨rfl, hb1⟩
    go_wp2_with fail
    refine (implPartsValid_any _ _ _ _ _ _ hl' hm (hs.below hb1 (Nat.le_refl _)) Hv2.out).mono ?_
    rintro e w2 ⟨rfl, hb2⟩
    go_wp2
    go_ret2
    have hb := hb1.trans (hb2.mono hb1.size)
    exact ⟨_, _, rfl, own_base (own_empty w2 55 2) hb.size, hb.alloc hb.size _⟩
  have Hv2 := hideIt hv
  clear hv
  have hn12 := (partsValid_len Hv.out).2
  have hm12 := (partsValid_len Hv2.out).2
  have hje : joinOk ps qs = partsValid (ps ++ qs) := by rw [joinOk, Hv.out, Hv2.out]; rfl
  have hlen : (ps ++ qs).length = n + m := by rw [List.length_append, hl, hl']
  cases hv : partsValid (ps ++ qs)
  all_goals
    have Hv3 := hideIt hv
    rw [hv] at hje
    clear hv
    go_enter Try.func29, Try.ntmps29
    go_wp2_with fail
    refine (implPartsValid_any _ _ _ _ _ _ hl hn hr Hv.out).mono ?_
    rintro e w1 ⟨rfl, hb1⟩
    have Hje := hideIt hje
    go_wp2_with fail
    refine (implPartsValid_any _ _ _ _ _ _ hl' hm (hs.below hb1 (Nat.le_refl _)) Hv2.out).mono ?_
    rintro e w2 ⟨rfl, hb2⟩
    have hb := hb1.trans (hb2.mono hb1.size)
    go_wp2_with fail
    refine (concatPart_any _ a b ps qs n m c d _ hl hl' hn hm ((hr.below hb (Nat.le_refl _)).alloc _) ((hs.below hb (Nat.le_refl _)).alloc _) (by simp) (by simp) (by simp)).mono ?_
    rintro e w3 ⟨A3, c3, rfl, ho3, hb3⟩
    have hbo := (hb.alloc hb.size _).trans (hb3.mono (Nat.le_trans hb.size (by simp)))
    go_wp2_with fail
    refine (implPartsValid_any _ _ _ _ _ _ hlen (by omega) (Rd.of_own ho3) Hv3.out).mono ?_
    rintro e w4 ⟨rfl, hb4⟩
    have hbo4 := hbo.trans (hb4.mono hbo.size)
    go_wp2
    go_ret2
    rw [Hje.out]
  · have hp : partsJoin ps qs = [] := by rw [partsJoin, Hje.out]; rfl
    rw [hp]
    exact ⟨_, _, rfl, own_base (own_empty w4 55 2) hbo4.size, hbo4.alloc hbo4.size _⟩
  · have hp : partsJoin ps qs = ps ++ qs := by rw [partsJoin, Hje.out]; rfl
    rw [hp, hlen]
    exact ⟨_, _, rfl, own_base (own_below ho3 hb4 (Nat.le_refl _)) (Nat.le_trans hb.size (by simp)), hbo4⟩

set_option maxHeartbeats 1000000 in
theorem specPartsJoin_any (a b : Addr) (ps : List (Int × Int)) (n c : Nat) (qs : List (Int × Int)) (m d : Nat) (w : World) (hl : ps.length = n) (hn : n ≤ 1048576) (hr : Rd w (some a) (fl2 ps)) (hl' : qs.length = m) (hm : m ≤ 1048576) (hs : Rd w (some b) (fl2 qs)) (hnm : n + m ≤ 1048576) :
    Calls Try.prog 28 #[.slice (some a) n c, .slice (some b) m d] w (RetSB w 55 2 (partsJoin ps qs).length (fl2 (partsJoin ps qs)) (joinOk ps qs)) := by
  obtain ⟨i0, hi, hz0, hz1, hz2⟩ := info_parts info_Part
  have hlen : (ps ++ qs).length = n + m := by rw [List.length_append, hl, hl']
  have Hl := hideIt (show (fl2 ps).length = n * 2 by rw [fl2_len, hl])
  have Hl' := hideIt (show (fl2 qs).length = m * 2 by rw [fl2_len, hl'])
  have HL := hideIt hl
  have HL' := hideIt hl'
  have Hlen := hideIt hlen
  clear hl hl' hlen
  go_enter Try.func28, Try.ntmps28
  go_wp2_with (first
    | (at_builtin
       refine wpList_append_own _ rfl (.tmp 7) (.tmp 8) 25 rfl w.heap.size 55 i0 _ 2 16 Try.underlying25 hi hz0 hz1 hz2 rfl (by decide) _ _ _ rfl (own_empty w 55 2) a n c (fl2 ps) rfl Hl.out (hr.alloc _).news (fl2_one ps) (by unfold maxLen; omega) (by omega) (by simp) ?_
       intro v1 w1 hown1 hgrow1 hnn1
       clear hnn1
       rw [Nat.zero_add, List.nil_append] at hown1
       have hb1 : Below w.heap.size w w1 := ((Below.refl _ _).alloc (Nat.le_refl _) _).grown hgrow1 (by simp) (by intro k hk; cases hk; exact Nat.le_refl _)
       have hs1 := hs.below hb1 (Nat.le_refl _))
    | (at_builtin
       refine wpList_append_own _ rfl (.tmp 9) (.tmp 10) 25 rfl w.heap.size 55 i0 _ 2 16 Try.underlying25 hi hz0 hz1 hz2 rfl (by decide) _ _ _ rfl hown1 b m d (fl2 qs) rfl Hl'.out hs1.news (fl2_one qs) (by unfold maxLen; omega) (by omega) hb1.size ?_
       intro v2 w2 hown2 hgrow2 hnn2
       clear hnn2))
  have hb2 : Below w.heap.size w w2 := hb1.grown hgrow2 hb1.size (fun k hk => (hown1.lt k hk).1)
  have hown2' : w2.ownsRow w.heap.size 55 2 v2 (n + m) (fl2 (ps ++ qs)) := by rw [fl2, List.flatMap_append]; exact hown2
  clear hown1 hown2 hgrow1 hgrow2
  obtain ⟨A2, c2, rfl⟩ := own_form hown2'
  have hrd := Rd.of_own hown2'
  have hr2 := hr.below hb2 (Nat.le_refl _)
  have hs2 := hs.below hb2 (Nat.le_refl _)
  clear hb1 hs1 hr hs
  cases hv : partsValid ps
  · have Hv := hideIt hv
    clear hv
    have hj : joinOk ps qs = false := by rw [joinOk, Hv.out]; rfl
    refine (specPartsValid_any _ _ _ _ _ _ HL.out hn hr2 Hv.out).mono ?_
    rintro e w3 ⟨rfl, rfl⟩
    have Hj := hideIt hj
    clear hj
    go_wp2
    go_ret2
    rw [partsJoin, Hj.out]
    exact ⟨_, _, rfl, own_base (own_empty w2 55 2) hb2.size, hb2.alloc hb2.size _⟩
  have Hv := hideIt hv
  clear hv
  refine (specPartsValid_any _ _ _ _ _ _ HL.out hn hr2 Hv.out).mono ?_
  rintro e w3 ⟨rfl, rfl⟩
  cases hv : partsValid qs
  · have Hv2 := hideIt hv
    clear hv
    have hj : joinOk ps qs = false := by rw [joinOk, Hv2.out, Bool.and_false]; rfl
    have Hj := hideIt hj
    clear hj
    go_wp2_with fail
    refine (specPartsValid_any _ _ _ _ _ _ HL'.out hm hs2 Hv2.out).mono ?_
    rintro e w3 ⟨rfl, rfl⟩
    go_wp2
    go_ret2
    rw [partsJoin, Hj.out]
    exact ⟨_, _, rfl, own_base (own_empty w2 55 2) hb2.size, hb2.alloc hb2.size _⟩
  have Hv2 := hideIt hv
  clear hv
  go_wp2_with fail
  refine (specPartsValid_any _ _ _ _ _ _ HL'.out hm hs2 Hv2.out).mono ?_
  rintro e w3 ⟨rfl, rfl⟩
  have hje : joinOk ps qs = partsValid (ps ++ qs) := by rw [joinOk, Hv.out, Hv2.out]; rfl
  cases hv : partsValid (ps ++ qs)
  · have Hv3 := hideIt hv
    rw [hv] at hje
    have Hje := hideIt hje
    clear hv hje
    go_wp2_with fail
    refine (specPartsValid_any _ _ _ _ _ _ Hlen.out hnm hrd Hv3.out).mono ?_
    rintro e w3 ⟨rfl, rfl⟩
    go_wp2
    go_ret2
    rw [partsJoin, Hje.out]
    exact ⟨_, _, rfl, own_base (own_empty w2 55 2) hb2.size, hb2.alloc hb2.size _⟩
  · have Hv3 := hideIt hv
    rw [hv] at hje
    have Hje := hideIt hje
    clear hv hje
    go_wp2_with fail
    refine (specPartsValid_any _ _ _ _ _ _ Hlen.out hnm hrd Hv3.out).mono ?_
    rintro e w3 ⟨rfl, rfl⟩
    go_wp2
    go_ret2
    rw [partsJoin, Hje.out, if_pos rfl, Hlen.out]
    exact ⟨_, _, rfl, hown2', hb2⟩
end Go.Proofs.Ytingidljlfblnaa

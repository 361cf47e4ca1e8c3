/- Walks: slices.Clone, slices.Grow of nil, slices.Concat of two at Road. Printed by gen_slices.py. -/
import Derived.Test.YtdnjeahbnidefaaGA
import Derived.Lib.AppendZeros
import Derived.Lib.LazyBuf
import Derived.WalkSpells
namespace Go.Proofs.Ytdnjeahbnidefaa
open Go.RowKit

set_option maxRecDepth 100000 in
set_option maxHeartbeats 1000000 in
theorem growRoad_any (n : Nat) (w : World) (hn : n ≤ 4194304) :
    Calls Try.prog 66 #[.slice none 0 0, .int .i64 n] w (RetS w 32 3 0 []) := by
  obtain ⟨i0, hi, hz0, hz1, hz2⟩ := info_parts info_Road
  by_cases h0 : n = 0
  · subst h0
    go_enter Try.func66, Try.ntmps66
    go_wp2
    go_ret
    exact ⟨none, 0, rfl, World.ownsRow_nil _ _ _ _, Below.refl _ _⟩
  · have hp : (0 : Int) < (n : Int) := by omega
    have hrun := Lib.run_append_nil_zeros (P := Try.prog) w 23 3 23 32 i0 (.agg #[.int .i64 0, .int .i64 0, .int .i64 0]) .i64 .i64 Try.underlying23 Try.underlying3 hi hz0 n (by omega) (by rw [hz1]; omega) (by omega) (by rw [hz2]; omega)
    have hcap := grownCap_ge w n 0 32
    have hcm : grownCap w n 0 32 ≤ maxLen := grownCap_le_maxLen w n 0 32 (by unfold maxLen; omega)
    obtain ⟨c, hc⟩ : ∃ c, grownCap w n 0 32 = c := ⟨_, rfl⟩
    rw [hc] at hrun hcap hcm
    obtain ⟨cs, hcs⟩ : ∃ cs, Builtin.zeroCells (Value.agg #[.int .i64 0, .int .i64 0, .int .i64 0]).cells n ++ Builtin.zeroCells (Value.agg #[.int .i64 0, .int .i64 0, .int .i64 0]).cells (c - n) = cs := ⟨_, rfl⟩
    have hsz : cs.size = c * 3 := by rw [← hcs]; simp [size_zeroCells, Value.cells]; omega
    rw [hcs] at hrun
    clear hcs hc h0
    have Hsz := hideIt hsz
    have Hcm := hideIt hcm
    have Hrun := hideIt hrun
    clear hsz hcm hrun
    have hown : (w.drew.alloc (.cells cs 32)).ownsRow w.heap.size 32 3 (.slice (some ⟨w.heap.size, 0, none⟩) 0 c) 0 [] :=
      ⟨by simp, .inr ⟨w.heap.size, c, cs, rfl, Nat.le_refl _, heap_alloc_new w.drew _, Nat.zero_le _, Hcm.out, Hsz.out, by simp⟩⟩
    go_enter Try.func66, Try.ntmps66
    go_wp2_with (at_builtin; refine Lib.wpList_append_run _ rfl (.tmp 20) (.tmp 21) 23 3 rfl _ _ rfl rfl _ _ Hrun.out ?_)
    go_ret
    exact ⟨_, _, rfl, hown, ((Below.refl _ _).alloc (Nat.le_refl _) _).drew⟩

set_option maxRecDepth 100000 in
set_option maxHeartbeats 1000000 in
theorem concatRoad_any (bb : Nat) (a b : Addr) (ps qs : List (Int × Int × Int)) (n m c d : Nat) (w : World) (hl : ps.length = n) (hl' : qs.length = m) (hn : n ≤ 1048576) (hm : m ≤ 1048576)
    (hr : Rd w (some a) (fl3 ps)) (hs : Rd w (some b) (fl3 qs)) (hb : bb < w.heap.size)
    (h0 : w.cell? ⟨bb, 0, none⟩ = some (.slice (some a) n c)) (h1 : w.cell? ⟨bb, 1, none⟩ = some (.slice (some b) m d)) :
    Calls Try.prog 57 #[.slice (some ⟨bb, 0, none⟩) 2 2] w (RetS w 32 3 (n + m) (fl3 (ps ++ qs))) := by
  obtain ⟨i0, hi, hz0, hz1, hz2⟩ := info_parts info_Road
  have Hl := hideIt (show (fl3 ps).length = n * 3 by rw [fl3_len, hl])
  have Hl' := hideIt (show (fl3 qs).length = m * 3 by rw [fl3_len, hl'])
  clear hl hl'
  go_enter Try.func57, Try.ntmps57
  go_wp2
  go_loop [3, 11] (fun s i => (i = .int .i64 0 ∧ s = .int .i64 0) ∨ (i = .int .i64 1 ∧ s = .int .i64 n) ∨ (i = .int .i64 2 ∧ s = .int .i64 ((n + m : Nat) : Int))) (fun _ i => 2 - (intOf i).toNat)
  case atStart => exact .inl ⟨rfl, rfl⟩
  case round =>
    rcases hrel with ⟨rfl, rfl⟩ | ⟨rfl, rfl⟩ | ⟨rfl, rfl⟩
    · go_wp2
      go_round
      case rel => exact .inr (.inl ⟨rfl, rfl⟩)
      case measure => simp [intOf]
    · go_wp2
      go_round
      case rel => exact .inr (.inr ⟨rfl, by go_num⟩)
      case measure => simp [intOf]
    · go_wp2_with fail
      refine (growRoad_any (n + m) _ (by omega)).mono ?_
      rintro e w1 ⟨A1, c1, rfl, ho1, hb1⟩
      have h01 := (hb1.cell (p := ⟨bb, 0, none⟩) hb).trans h0
      have hr1 := hr.below hb1 (Nat.le_refl _)
      clear h0 hr
      go_wp2
      go_loopw [6, 27] (fun v i wr => (i = .int .i64 0 ∧ v = .slice A1 0 c1 ∧ wr = w1) ∨ (i = .int .i64 1 ∧ wr.ownsRow w.heap.size 32 3 v n (fl3 ps) ∧ Below w.heap.size w wr) ∨ (i = .int .i64 2 ∧ wr.ownsRow w.heap.size 32 3 v (n + m) (fl3 (ps ++ qs)) ∧ Below w.heap.size w wr)) (fun _ i _ => 2 - (intOf i).toNat)
      case atStart => exact .inl ⟨rfl, rfl, rfl⟩
      case round =>
        rcases hrel with ⟨rfl, rfl, rfl⟩ | ⟨rfl, hown, hbw⟩ | ⟨rfl, hown, hbw⟩
        · go_wp2_with (at_builtin; refine wpList_append_own _ rfl (.tmp 31) (.tmp 32) 23 rfl w.heap.size 32 i0 _ 3 24 Try.underlying23 hi hz0 hz1 hz2 rfl (by decide) _ _ _ rfl ho1 a n c (fl3 ps) rfl Hl.out hr1.news (fl3_one ps) (by unfold maxLen; omega) (by omega) hb1.size ?_; intro v' w2 hown' hgrow _)
          go_roundw
          case rel => exact .inr (.inl ⟨rfl, by rw [Nat.zero_add, List.nil_append] at hown'; exact hown', hb1.grown hgrow hb1.size (fun k hk => (ho1.lt k hk).1)⟩)
          case measure => simp [intOf]
        · have h11 := (hbw.cell (p := ⟨bb, 1, none⟩) hb).trans h1
          have hs1 := hs.below hbw (Nat.le_refl _)
          clear h1 hs ho1 hb1
          go_wp2_with (at_builtin; refine wpList_append_own _ rfl (.tmp 31) (.tmp 32) 23 rfl w.heap.size 32 i0 _ 3 24 Try.underlying23 hi hz0 hz1 hz2 rfl (by decide) _ _ _ rfl hown b m d (fl3 qs) rfl Hl'.out hs1.news (fl3_one qs) (by unfold maxLen; omega) (by omega) hbw.size ?_; intro v' w2 hown' hgrow _)
          go_roundw
          case rel => exact .inr (.inr ⟨rfl, by rw [fl3, List.flatMap_append]; exact hown', hbw.grown hgrow hbw.size (fun k hk => (hown.lt k hk).1)⟩)
          case measure => simp [intOf]
        · obtain ⟨A', cap', rfl⟩ := own_form hown
          go_wp2
          go_ret
          exact ⟨_, _, rfl, hown, hbw⟩

end Go.Proofs.Ytdnjeahbnidefaa

/- Walks: slices.Concat of nothing and some roads, RoadsAdd of the program on no roads. -/
import Derived.Test.YtpiknklaikcilaaRo9
import Derived.Laws.AppendOwnNone
namespace Go.Proofs.Ytpiknklaikcilaa
open Go.RowKit

set_option maxRecDepth 100000 in
set_option maxHeartbeats 1000000 in
theorem concatRoad_nil (bb : Nat) (b : Addr) (qs : List (Int × Int × Int)) (m d : Nat) (w : World) (hl' : qs.length = m) (hm : m ≤ 1048576)
    (hs : Rd w (some b) (fl3 qs)) (hb : bb < w.heap.size)
    (h0 : w.cell? ⟨bb, 0, none⟩ = some (.slice none 0 0)) (h1 : w.cell? ⟨bb, 1, none⟩ = some (.slice (some b) m d)) :
    Calls Try.prog 76 #[.slice (some ⟨bb, 0, none⟩) 2 2] w (RetS w 50 3 m (fl3 qs)) := by
  obtain ⟨i0, hi, hz0, hz1, hz2⟩ := info_parts info_Road
  have Hl' := hideIt (show (fl3 qs).length = m * 3 by rw [fl3_len, hl'])
  clear hl'
  go_enter Try.func76, Try.ntmps76
  go_wp2
  go_loop [3, 11] (fun s i => (i = .int .i64 0 ∧ s = .int .i64 0) ∨ (i = .int .i64 1 ∧ s = .int .i64 0) ∨ (i = .int .i64 2 ∧ s = .int .i64 (m : Int))) (fun _ i => 2 - (intOf i).toNat)
  case atStart => exact .inl ⟨rfl, rfl⟩
  case round =>
    rcases hrel with ⟨rfl, rfl⟩ | ⟨rfl, rfl⟩ | ⟨rfl, rfl⟩
    · go_wp2
      go_round
      case rel => exact .inr (.inl ⟨rfl, rfl⟩)
      case measure => simp [intOf]
    · go_wp2
      go_round
      case rel => exact .inr (.inr ⟨rfl, by go_num⟩)
      case measure => simp [intOf]
    · go_wp2_with fail
      refine (growRoad_any m _ (by omega)).mono ?_
      rintro e w1 ⟨A1, c1, rfl, ho1, hb1⟩
      have h01 := (hb1.cell (p := ⟨bb, 0, none⟩) hb).trans h0
      clear h0
      go_wp2
      go_loopw [6, 27] (fun v i wr => (i = .int .i64 0 ∧ v = .slice A1 0 c1 ∧ wr = w1) ∨ (i = .int .i64 1 ∧ v = .slice A1 0 c1 ∧ wr = w1) ∨ (i = .int .i64 2 ∧ wr.ownsRow w.heap.size 50 3 v m (fl3 qs) ∧ Below w.heap.size w wr)) (fun _ i _ => 2 - (intOf i).toNat)
      case atStart => exact .inl ⟨rfl, rfl, rfl⟩
      case round =>
        rcases hrel with ⟨rfl, rfl, rfl⟩ | ⟨rfl, rfl, rfl⟩ | ⟨rfl, hown, hbw⟩
        · go_wp2_with (at_builtin; refine wpList_append_own_none rfl (.tmp 31) (.tmp 32) 27 rfl w.heap.size 50 i0 3 Try.underlying27 hi _ _ _ rfl ho1 rfl ?_)
          go_roundw
          case rel => exact .inr (.inl ⟨rfl, rfl, trivial⟩)
          case measure => simp [intOf]
        · have h11 := (hb1.cell (p := ⟨bb, 1, none⟩) hb).trans h1
          have hs1 := hs.below hb1 (Nat.le_refl _)
          clear h1 hs
          go_wp2_with (at_builtin; refine wpList_append_own _ rfl (.tmp 31) (.tmp 32) 27 rfl w.heap.size 50 i0 _ 3 24 Try.underlying27 hi hz0 hz1 hz2 rfl (by decide) _ _ _ rfl ho1 b m d (fl3 qs) rfl Hl'.out hs1.news (fl3_one qs) (by unfold maxLen; omega) (by omega) hb1.size ?_; intro v' w2 hown' hgrow _)
          go_roundw
          case rel => exact .inr (.inr ⟨rfl, by rw [Nat.zero_add, List.nil_append] at hown'; exact hown', hb1.grown hgrow hb1.size (fun k hk => (ho1.lt k hk).1)⟩)
          case measure => simp [intOf]
        · obtain ⟨A', cap', rfl⟩ := own_form hown
          go_wp2
          go_ret
          exact ⟨_, _, rfl, hown, hbw⟩

set_option maxRecDepth 100000 in
set_option maxHeartbeats 1000000 in
theorem implRoadsAdd_nil (n : Int) (x y z : Int) (w : World) (hv : roadsValid n [] = true) (hv2 : roadsValid n [(x, y, z)] = true) :
    Calls Try.prog 41 #[.int .i64 n, .slice none 0 0, .agg #[.int .i64 x, .int .i64 y, .int .i64 z]] w (RetSB w 50 3 1 (fl3 [(x, y, z)]) true) := by
  have Hv := hideIt hv
  have Hv3 := hideIt hv2
  clear hv hv2
  go_enter Try.func41, Try.ntmps41
  go_wp2_with fail
  refine (implRoadsValid_any _ _ [] 0 _ _ _ rfl (by omega) (Rd.nil _ _) Hv.out).mono ?_
  rintro e w1 ⟨rfl, hb1⟩
  have hcx := (hb1.cell (p := ⟨w.heap.size, 0, none⟩) (by simp)).trans (by simp : (w.alloc (.cells #[.int .i64 x, .int .i64 y, .int .i64 z] 50)).cell? ⟨w.heap.size, 0, none⟩ = some (.int .i64 x))
  have hcy := (hb1.cell (p := ⟨w.heap.size, 1, none⟩) (by simp)).trans (by simp : (w.alloc (.cells #[.int .i64 x, .int .i64 y, .int .i64 z] 50)).cell? ⟨w.heap.size, 1, none⟩ = some (.int .i64 y))
  have hcz := (hb1.cell (p := ⟨w.heap.size, 2, none⟩) (by simp)).trans (by simp : (w.alloc (.cells #[.int .i64 x, .int .i64 y, .int .i64 z] 50)).cell? ⟨w.heap.size, 2, none⟩ = some (.int .i64 z))
  have hb := ((Below.refl w.heap.size w).alloc (Nat.le_refl _) (.cells #[.int .i64 x, .int .i64 y, .int .i64 z] 50)).trans (hb1.mono (by simp))
  clear hb1
  go_wp2_with fail
  refine (concatRoad_nil _ ⟨w1.heap.size, 0, none⟩ [(x, y, z)] 1 1 _ rfl (by omega) (by rw [fl3_one1]; exact (rd_new3 w1 _ _ _ _).alloc _) (by simp) (by simp) (by simp)).mono ?_
  rintro e w3 ⟨A3, c3, rfl, ho3, hb3⟩
  have hbo := ((hb.alloc hb.size (.cells #[.int .i64 x, .int .i64 y, .int .i64 z] 50)).alloc (Nat.le_trans hb.size (by simp)) _).trans (hb3.mono (Nat.le_trans hb.size (by simp; omega)))
  go_wp2_with fail
  refine (implRoadsValid_any _ _ [(x, y, z)] 1 _ _ _ rfl (by omega) (Rd.of_own ho3) Hv3.out).mono ?_
  rintro e w4 ⟨rfl, hb4⟩
  have hbo4 := hbo.trans (hb4.mono hbo.size)
  go_wp2
  go_ret2
  exact ⟨_, _, rfl, own_base (own_below ho3 hb4 (Nat.le_refl _)) (Nat.le_trans hb.size (by simp; omega)), hbo4⟩
/-- RoadsAdd on a row of the call's own, nil too, where the road fits -/
theorem implRoadsAdd_own (n : Int) (base c : Nat) (A : Option Addr) (ls : List (Int × Int × Int)) (m : Nat) (x y z : Int) (w : World) (hl : ls.length = m) (hm : m ≤ 1048576) (ho : w.ownsRow base 50 3 (.slice A m c) m (fl3 ls)) (hv : roadsValid n (ls ++ [(x, y, z)]) = true) :
    Calls Try.prog 41 #[.int .i64 n, .slice A m c, .agg #[.int .i64 x, .int .i64 y, .int .i64 z]] w (RetSB w 50 3 (m + 1) (fl3 (ls ++ [(x, y, z)])) true) := by
  rcases ho.2 with ⟨hnil, hz⟩ | ⟨g, cc, cur, hvv, _⟩
  · simp only [Value.slice.injEq] at hnil
    obtain ⟨rfl, rfl, rfl⟩ := hnil
    have : ls = [] := List.eq_nil_of_length_eq_zero hl
    subst this
    refine implRoadsAdd_nil n x y z w ?_ hv
    cases h : roadsValid n []
    · have := roadsValid_snoc_f (r := (x, y, z)) h
      rw [this] at hv
      cases hv
    · rfl
  · simp only [Value.slice.injEq] at hvv
    obtain ⟨rfl, _, rfl⟩ := hvv
    have := implRoadsAdd_any n ⟨g, 0, none⟩ ls m c x y z w hl hm (Rd.of_own ho)
    rw [roadsAdd_t hv, hv, List.length_append, hl] at this
    exact this
end Go.Proofs.Ytpiknklaikcilaa

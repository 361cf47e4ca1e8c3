/- Walks: RoadsAdd of the reference. -/
import Derived.Test.YtdnjeahbnidefaaRo1
import Derived.Test.YtdnjeahbnidefaaGA
namespace Go.Proofs.Ytdnjeahbnidefaa
open Go.RowKit

theorem info_RoadA : (Try.prog.info? 32).map (fun i => (i.zero, i.size, i.bytes)) = some (some (.agg #[.int .i64 0, .int .i64 0, .int .i64 0]), 3, 24) := by kernel_rfl
/-- what RoadsAdd returns -/
def roadsAdd (n : Int) (rs : List (Int × Int × Int)) (r : Int × Int × Int) : List (Int × Int × Int) := if roadsValid n (rs ++ [r]) = true then rs ++ [r] else []
theorem roadsAdd_f {n : Int} {rs : List (Int × Int × Int)} {r : Int × Int × Int} (h : roadsValid n (rs ++ [r]) = false) : roadsAdd n rs r = [] := by rw [roadsAdd, h]; rfl
theorem roadsAdd_t {n : Int} {rs : List (Int × Int × Int)} {r : Int × Int × Int} (h : roadsValid n (rs ++ [r]) = true) : roadsAdd n rs r = rs ++ [r] := by rw [roadsAdd, h]; rfl

set_option maxRecDepth 100000 in
set_option maxHeartbeats 4000000 in
theorem specRoadsAdd_any (n : Int) (a : Addr) (ls : List (Int × Int × Int)) (m cap : Nat) (x y z : Int) (w : World) (hl : ls.length = m) (hm : m ≤ 1000) (hr : Rd w (some a) (fl3 ls)) :
    Calls Try.prog 56 #[.int .i64 n, .slice (some a) m cap, .agg #[.int .i64 x, .int .i64 y, .int .i64 z]] w (RetSB w 32 3 (roadsAdd n ls (x, y, z)).length (fl3 (roadsAdd n ls (x, y, z))) (roadsValid n (ls ++ [(x, y, z)]))) := by
  obtain ⟨i0, hi, hz0, hz1, hz2⟩ := info_parts info_RoadA
  have Hfl := hideIt (show (fl3 ls).length = m * 3 by rw [fl3_len, hl])
  have Hl := hideIt hl
  have HS := hideIt (book_cells w (.int .i64 x) (.int .i64 y) (.int .i64 z) 32)
  have hb0 : Below w.heap.size w (w.alloc (.cells #[.int .i64 x, .int .i64 y, .int .i64 z] 32)) := (Below.refl w.heap.size w).alloc (Nat.le_refl _) _
  have hw0 : Below (w.alloc (.cells #[.int .i64 x, .int .i64 y, .int .i64 z] 32)).heap.size (w.alloc (.cells #[.int .i64 x, .int .i64 y, .int .i64 z] 32)) (w.alloc (.cells #[.int .i64 x, .int .i64 y, .int .i64 z] 32)).drew := (Below.refl _ _).drew
  have hr0 := hr.below hb0 (Nat.le_refl _)
  clear hl
  go_enter Try.func56, Try.ntmps56
  go_wp2_with fail
  go_region_held3 (fun w' => w'.cell? ⟨w.heap.size, 0, none⟩ = some (.int .i64 x) ∧ w'.cell? ⟨w.heap.size, 1, none⟩ = some (.int .i64 y) ∧ w'.cell? ⟨w.heap.size, 2, none⟩ = some (.int .i64 z) ∧ Below (w.alloc (.cells #[.int .i64 x, .int .i64 y, .int .i64 z] 32)).heap.size (w.alloc (.cells #[.int .i64 x, .int .i64 y, .int .i64 z] 32)) w')
    (first
      | exact HS.out _ hw0
      | exact HS.out _ B1
      | exact HS.out _ B2
      | (go_split_ands
         exact HS.out _ (Below.alloc (by assumption) (Below.size (by assumption)) _)))
    (first
      | (go_split_ands
         refine step_append_all rfl (.tmp 9) (.tmp 10) 23 (by rfl) (w.heap.size + 1) 32 i0 _ 3 24 Try.underlying23 hi hz0 hz1 hz2 rfl (by omega) _ 0 [] (by rfl) (own_base (own_emptyH (w.alloc (.cells #[.int .i64 x, .int .i64 y, .int .i64 z] 32)).drew _ _ _ (by simp)) (by omega)) a m cap (fl3 ls) (by rfl) Hfl.out ((hr0.below (by assumption) (Nat.le_refl _)).news) (fl3_one ls) (by unfold maxLen; omega) (by omega) (Below.size_le (by assumption) (by simp)) m (Nat.zero_add m) ?_
         intro A1 c1 w1 hown1 hgrow1
         rw [List.nil_append] at hown1
         have B1 := Below.grown (by assumption) hgrow1 (Below.size (by assumption)) (fun k hk => by simp [Value.ownBlock] at hk ⊢; omega))
      | (go_split_ands
         refine step_append_all rfl (.tmp 9) (.tmp 10) 23 (by rfl) (w.heap.size + 1) 32 i0 _ 3 24 Try.underlying23 hi hz0 hz1 hz2 rfl (by omega) _ 0 [] (by rfl) (own_base (own_emptyH ((w.alloc (.cells #[.int .i64 x, .int .i64 y, .int .i64 z] 32)).drew.alloc (.cells #[.int .i64 x, .int .i64 y, .int .i64 z] 32)) _ _ _ (by simp)) (by omega)) a m cap (fl3 ls) (by rfl) Hfl.out ((hr0.below (by assumption) (Nat.le_refl _)).news) (fl3_one ls) (by unfold maxLen; omega) (by omega) (Below.size_le (by assumption) (by simp)) m (Nat.zero_add m) ?_
         intro A1 c1 w1 hown1 hgrow1
         rw [List.nil_append] at hown1
         have B1 := Below.grown (by assumption) hgrow1 (Below.size (by assumption)) (fun k hk => by simp [Value.ownBlock] at hk ⊢; omega)
         have hblk : w1.heap[w.heap.size + 1]? = some (.cells #[.int .i64 x, .int .i64 y, .int .i64 z] 32) := (hgrow1.block _ (by simp) (by simp [Value.ownBlock])).trans ((Below.heap_alloc _ _ _ (by simp)).trans (heap_newH _ _ _ (by simp))))
      | (go_split_ands
         refine step_append_all rfl (.tmp 9) (.tmp 10) 23 (by rfl) (w.heap.size + 1) 32 i0 _ 3 24 Try.underlying23 hi hz0 hz1 hz2 rfl (by omega) _ 0 [] (by rfl) (own_base (World.ownsRow.alloc (own_emptyH (w.alloc (.cells #[.int .i64 x, .int .i64 y, .int .i64 z] 32)).drew _ _ _ (by simp)) _) (by omega)) a m cap (fl3 ls) (by rfl) Hfl.out ((hr0.below (by assumption) (Nat.le_refl _)).news) (fl3_one ls) (by unfold maxLen; omega) (by omega) (Below.size_le (by assumption) (by simp)) m (Nat.zero_add m) ?_
         intro A1 c1 w1 hown1 hgrow1
         rw [List.nil_append] at hown1
         have B1 := Below.grown (by assumption) hgrow1 (Below.size (by assumption)) (fun k hk => by simp [Value.ownBlock] at hk ⊢; omega)
         have hblk : w1.heap[w.heap.size + 1 + 1]? = some (.cells #[.int .i64 x, .int .i64 y, .int .i64 z] 32) := (hgrow1.block _ (by simp) (by simp [Value.ownBlock])).trans (heap_newH _ _ _ (by simp)))
      | (go_split_ands
         refine step_append_all rfl (.tmp 11) (.tmp 13) 23 (by rfl) (w.heap.size + 1) 32 i0 _ 3 24 Try.underlying23 hi hz0 hz1 hz2 rfl (by omega) _ m (fl3 ls) (by rfl) ((hown1.alloc _)) ⟨w1.heap.size, 0, none⟩ 1 1 [.int .i64 x, .int .i64 y, .int .i64 z] (by rfl) rfl (news_at (cs := #[.int .i64 x, .int .i64 y, .int .i64 z]) (t := 32) (heap_alloc_new w1 _)) (by simp [Value.oneCell']) (by unfold maxLen; omega) (by omega) (Below.size_le (by assumption) (by simp)) (m + 1) rfl ?_
         intro A2 c2 w2 hown2 hgrow2
         have B2 := below_own (by assumption) ((hown1.alloc _)) hgrow2 (by simp) (Below.size (by assumption)))
      | (go_split_ands
         refine step_append_all rfl (.tmp 11) (.tmp 13) 23 (by rfl) (w.heap.size + 1) 32 i0 _ 3 24 Try.underlying23 hi hz0 hz1 hz2 rfl (by omega) _ m (fl3 ls) (by rfl) (hown1) ⟨w.heap.size + 1, 0, none⟩ 1 1 [.int .i64 x, .int .i64 y, .int .i64 z] (by rfl) rfl (news_at (cs := #[.int .i64 x, .int .i64 y, .int .i64 z]) (t := 32) hblk) (by simp [Value.oneCell']) (by unfold maxLen; omega) (by omega) (Below.size_le (by assumption) (by simp)) (m + 1) rfl ?_
         intro A2 c2 w2 hown2 hgrow2
         have B2 := below_own (by assumption) (hown1) hgrow2 (by simp) (Below.size (by assumption)))
      | (go_split_ands
         refine step_append_all rfl (.tmp 11) (.tmp 13) 23 (by rfl) (w.heap.size + 1) 32 i0 _ 3 24 Try.underlying23 hi hz0 hz1 hz2 rfl (by omega) _ m (fl3 ls) (by rfl) (hown1) ⟨w.heap.size + 1 + 1, 0, none⟩ 1 1 [.int .i64 x, .int .i64 y, .int .i64 z] (by rfl) rfl (news_at (cs := #[.int .i64 x, .int .i64 y, .int .i64 z]) (t := 32) hblk) (by simp [Value.oneCell']) (by unfold maxLen; omega) (by omega) (Below.size_le (by assumption) (by simp)) (m + 1) rfl ?_
         intro A2 c2 w2 hown2 hgrow2
         have B2 := below_own (by assumption) (hown1) hgrow2 (by simp) (Below.size (by assumption))))
  all_goals
    have hown : w2.ownsRow w.heap.size 32 3 (.slice A2 (m + 1) c2) (m + 1) (fl3 (ls ++ [(x, y, z)])) := by
      rw [fl3, List.flatMap_append]
      exact own_base hown2 (by omega)
    have hb2 := below_from hb0 B2
    have hr2 := hr.below hb2 (Nat.le_refl _)
    clear hown1 hown2 hgrow1 hgrow2 B1 B2 hb0 hw0 hr0 HS
    try clear hblk
    have Hlen := hideIt (show (ls ++ [(x, y, z)]).length = m + 1 by rw [List.length_append, Hl.out]; rfl)
    have hrd := Rd.of_own hown
    cases hv : roadsValid n (ls ++ [(x, y, z)])
    · have Hv := hideIt hv
      have Hj := hideIt (roadsAdd_f hv)
      clear hv
      go_wp2_with fail
      refine (specRoadsValid_any _ _ _ _ _ _ _ Hlen.out (by omega) hrd Hv.out).mono ?_
      rintro e w3 ⟨rfl, hb3⟩
      have hb := hb2.trans (hb3.mono hb2.size)
      go_wp2
      go_ret2
      rw [Hj.out, Hv.out]
      exact ⟨_, _, rfl, own_base (own_empty w3 32 3) hb.size, hb.alloc hb.size _⟩
    · have Hv := hideIt hv
      have Hj := hideIt (roadsAdd_t hv)
      clear hv
      go_wp2_with fail
      refine (specRoadsValid_any _ _ _ _ _ _ _ Hlen.out (by omega) hrd Hv.out).mono ?_
      rintro e w3 ⟨rfl, hb3⟩
      have hb := hb2.trans (hb3.mono hb2.size)
      have ho3 := own_below hown hb3 (Nat.le_refl _)
      clear hown hrd
      go_wp2
      go_ret2
      rw [Hj.out, Hlen.out, Hv.out]
      exact ⟨_, _, rfl, ho3, hb⟩
end Go.Proofs.Ytdnjeahbnidefaa

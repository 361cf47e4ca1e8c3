/- Walks: SeatsBook of the reference. -/
import Derived.Test.YtpcmkegogcffiaaSt11
import Derived.Test.YtpcmkegogcffiaaStep
namespace Go.Proofs.Ytpcmkegogcffiaa
open Go.RowKit

set_option maxRecDepth 100000 in
set_option maxHeartbeats 4000000 in
theorem specSeatsBook_any (n : Int) (a : Addr) (ls : List (Int × Int × Bool)) (m cap : Nat) (x y : Int) (z : Bool) (w : World) (hl : ls.length = m) (hm : m ≤ 1048576) (hr : Rd w (some a) (flB ls)) :
    Calls Try.prog 25 #[.int .i64 n, .slice (some a) m cap, .agg #[.int .i64 x, .int .i64 y, .bool z]] w (RetSB w 40 3 (seatsBook n ls (x, y, z)).length (flB (seatsBook n ls (x, y, z))) (bookOk n ls (x, y, z))) := by
  obtain ⟨i0, hi, hz0, hz1, hz2⟩ := info_parts info_Booking
  have Hfl := hideIt (show (flB ls).length = m * 3 by rw [flB_len, hl])
  have Hl := hideIt hl
  have HS := hideIt (book_cells w (.int .i64 x) (.int .i64 y) (.bool z) 40)
  have hb0 : Below w.heap.size w (w.alloc (.cells #[.int .i64 x, .int .i64 y, .bool z] 40)) := (Below.refl w.heap.size w).alloc (Nat.le_refl _) _
  have hw0 : Below (w.alloc (.cells #[.int .i64 x, .int .i64 y, .bool z] 40)).heap.size (w.alloc (.cells #[.int .i64 x, .int .i64 y, .bool z] 40)) (w.alloc (.cells #[.int .i64 x, .int .i64 y, .bool z] 40)).drew := (Below.refl _ _).drew
  have hr0 := hr.below hb0 (Nat.le_refl _)
  clear hl
  go_enter Try.func25, Try.ntmps25
  go_wp2_with fail
  go_region_held3 (fun w' => w'.cell? ⟨w.heap.size, 0, none⟩ = some (.int .i64 x) ∧ w'.cell? ⟨w.heap.size, 1, none⟩ = some (.int .i64 y) ∧ w'.cell? ⟨w.heap.size, 2, none⟩ = some (.bool z) ∧ Below (w.alloc (.cells #[.int .i64 x, .int .i64 y, .bool z] 40)).heap.size (w.alloc (.cells #[.int .i64 x, .int .i64 y, .bool z] 40)) w')
    (first
      | exact HS.out _ hw0
      | exact HS.out _ B1
      | exact HS.out _ B2
      | (go_split_ands
         exact HS.out _ (Below.alloc (by assumption) (Below.size (by assumption)) _)))
    (first
      | (go_split_ands
         refine step_append_all rfl (.tmp 9) (.tmp 10) 23 (by rfl) (w.heap.size + 1) 40 i0 _ 3 24 Try.underlying23 hi hz0 hz1 hz2 rfl (by omega) _ 0 [] (by rfl) (own_base (own_emptyH (w.alloc (.cells #[.int .i64 x, .int .i64 y, .bool z] 40)).drew _ _ _ (by simp)) (by omega)) a m cap (flB ls) (by rfl) Hfl.out ((hr0.below (by assumption) (Nat.le_refl _)).news) (flB_one ls) (by unfold maxLen; omega) (by omega) (Below.size_le (by assumption) (by simp)) m (Nat.zero_add m) ?_
         intro A1 c1 w1 hown1 hgrow1
         rw [List.nil_append] at hown1
         have B1 := Below.grown (by assumption) hgrow1 (Below.size (by assumption)) (fun k hk => by simp [Value.ownBlock] at hk ⊢; omega))
      | (go_split_ands
         refine step_append_all rfl (.tmp 9) (.tmp 10) 23 (by rfl) (w.heap.size + 1) 40 i0 _ 3 24 Try.underlying23 hi hz0 hz1 hz2 rfl (by omega) _ 0 [] (by rfl) (own_base (own_emptyH ((w.alloc (.cells #[.int .i64 x, .int .i64 y, .bool z] 40)).drew.alloc (.cells #[.int .i64 x, .int .i64 y, .bool z] 40)) _ _ _ (by simp)) (by omega)) a m cap (flB ls) (by rfl) Hfl.out ((hr0.below (by assumption) (Nat.le_refl _)).news) (flB_one ls) (by unfold maxLen; omega) (by omega) (Below.size_le (by assumption) (by simp)) m (Nat.zero_add m) ?_
         intro A1 c1 w1 hown1 hgrow1
         rw [List.nil_append] at hown1
         have B1 := Below.grown (by assumption) hgrow1 (Below.size (by assumption)) (fun k hk => by simp [Value.ownBlock] at hk ⊢; omega)
         have hblk : w1.heap[w.heap.size + 1]? = some (.cells #[.int .i64 x, .int .i64 y, .bool z] 40) := (hgrow1.block _ (by simp) (by simp [Value.ownBlock])).trans ((Below.heap_alloc _ _ _ (by simp)).trans (heap_newH _ _ _ (by simp))))
      | (go_split_ands
         refine step_append_all rfl (.tmp 9) (.tmp 10) 23 (by rfl) (w.heap.size + 1) 40 i0 _ 3 24 Try.underlying23 hi hz0 hz1 hz2 rfl (by omega) _ 0 [] (by rfl) (own_base (World.ownsRow.alloc (own_emptyH (w.alloc (.cells #[.int .i64 x, .int .i64 y, .bool z] 40)).drew _ _ _ (by simp)) _) (by omega)) a m cap (flB ls) (by rfl) Hfl.out ((hr0.below (by assumption) (Nat.le_refl _)).news) (flB_one ls) (by unfold maxLen; omega) (by omega) (Below.size_le (by assumption) (by simp)) m (Nat.zero_add m) ?_
         intro A1 c1 w1 hown1 hgrow1
         rw [List.nil_append] at hown1
         have B1 := Below.grown (by assumption) hgrow1 (Below.size (by assumption)) (fun k hk => by simp [Value.ownBlock] at hk ⊢; omega)
         have hblk : w1.heap[w.heap.size + 1 + 1]? = some (.cells #[.int .i64 x, .int .i64 y, .bool z] 40) := (hgrow1.block _ (by simp) (by simp [Value.ownBlock])).trans (heap_newH _ _ _ (by simp)))
      | (go_split_ands
         refine step_append_all rfl (.tmp 11) (.tmp 13) 23 (by rfl) (w.heap.size + 1) 40 i0 _ 3 24 Try.underlying23 hi hz0 hz1 hz2 rfl (by omega) _ m (flB ls) (by rfl) ((hown1.alloc _)) ⟨w1.heap.size, 0, none⟩ 1 1 [.int .i64 x, .int .i64 y, .bool z] (by rfl) rfl (news_at (cs := #[.int .i64 x, .int .i64 y, .bool z]) (t := 40) (heap_alloc_new w1 _)) (by simp [Value.oneCell']) (by unfold maxLen; omega) (by omega) (Below.size_le (by assumption) (by simp)) (m + 1) rfl ?_
         intro A2 c2 w2 hown2 hgrow2
         have B2 := below_own (by assumption) ((hown1.alloc _)) hgrow2 (by simp) (Below.size (by assumption)))
      | (go_split_ands
         refine step_append_all rfl (.tmp 11) (.tmp 13) 23 (by rfl) (w.heap.size + 1) 40 i0 _ 3 24 Try.underlying23 hi hz0 hz1 hz2 rfl (by omega) _ m (flB ls) (by rfl) (hown1) ⟨w.heap.size + 1, 0, none⟩ 1 1 [.int .i64 x, .int .i64 y, .bool z] (by rfl) rfl (news_at (cs := #[.int .i64 x, .int .i64 y, .bool z]) (t := 40) hblk) (by simp [Value.oneCell']) (by unfold maxLen; omega) (by omega) (Below.size_le (by assumption) (by simp)) (m + 1) rfl ?_
         intro A2 c2 w2 hown2 hgrow2
         have B2 := below_own (by assumption) (hown1) hgrow2 (by simp) (Below.size (by assumption)))
      | (go_split_ands
         refine step_append_all rfl (.tmp 11) (.tmp 13) 23 (by rfl) (w.heap.size + 1) 40 i0 _ 3 24 Try.underlying23 hi hz0 hz1 hz2 rfl (by omega) _ m (flB ls) (by rfl) (hown1) ⟨w.heap.size + 1 + 1, 0, none⟩ 1 1 [.int .i64 x, .int .i64 y, .bool z] (by rfl) rfl (news_at (cs := #[.int .i64 x, .int .i64 y, .bool z]) (t := 40) hblk) (by simp [Value.oneCell']) (by unfold maxLen; omega) (by omega) (Below.size_le (by assumption) (by simp)) (m + 1) rfl ?_
         intro A2 c2 w2 hown2 hgrow2
         have B2 := below_own (by assumption) (hown1) hgrow2 (by simp) (Below.size (by assumption))))
  all_goals
    have hown : w2.ownsRow w.heap.size 40 3 (.slice A2 (m + 1) c2) (m + 1) (flB (ls ++ [(x, y, z)])) := by
      rw [flB, List.flatMap_append]
      exact own_base hown2 (by omega)
    have hb2 := below_from hb0 B2
    have hr2 := hr.below hb2 (Nat.le_refl _)
    clear hown1 hown2 hgrow1 hgrow2 B1 B2 hb0 hw0 hr0 HS
    try clear hblk
    cases hv : bValid n ls
    · have Hv := hideIt hv
      clear hv
      have hj : bookOk n ls (x, y, z) = false := by rw [bookOk, Hv.out]; rfl
      have Hj := hideIt hj
      clear hj
      go_wp2_with fail
      refine (specBookingsValid_any _ _ _ _ _ _ _ Hl.out hm hr2 Hv.out).mono ?_
      rintro e w3 ⟨rfl, hb3⟩
      have hb := hb2.trans (hb3.mono hb2.size)
      go_wp2
      go_ret2
      rw [seatsBook_f Hj.out, Hj.out]
      exact ⟨_, _, rfl, own_base (own_empty w3 40 3) hb.size, hb.alloc hb.size _⟩
    have m16 := (bValid_parts hv).2.2.1
    rw [Hl.out] at m16
    have Hv := hideIt hv
    clear hv
    have hje : bookOk n ls (x, y, z) = bValid n (ls ++ [(x, y, z)]) := by rw [bookOk, Hv.out]; rfl
    have Hlen := hideIt (show (ls ++ [(x, y, z)]).length = m + 1 by rw [List.length_append, Hl.out]; rfl)
    cases hv : bValid n (ls ++ [(x, y, z)])
    · have Hv3 := hideIt hv
      rw [hv] at hje
      have Hj := hideIt hje
      clear hv hje
      go_wp2_with fail
      refine (specBookingsValid_any _ _ _ _ _ _ _ Hl.out hm hr2 Hv.out).mono ?_
      rintro e w3 ⟨rfl, hb3⟩
      have hb := hb2.trans (hb3.mono hb2.size)
      have ho3 := own_below hown hb3 (Nat.le_refl _)
      clear hown
      go_wp2_with fail
      refine (specBookingsValid_any _ _ _ _ _ _ _ Hlen.out (by omega) (Rd.of_own ho3) Hv3.out).mono ?_
      rintro e w4 ⟨rfl, hb4⟩
      have hb' := hb.trans (hb4.mono hb.size)
      go_wp2
      go_ret2
      rw [seatsBook_f Hj.out, Hj.out]
      exact ⟨_, _, rfl, own_base (own_empty w4 40 3) hb'.size, hb'.alloc hb'.size _⟩
    · have Hv3 := hideIt hv
      rw [hv] at hje
      have Hj := hideIt hje
      clear hv hje
      go_wp2_with fail
      refine (specBookingsValid_any _ _ _ _ _ _ _ Hl.out hm hr2 Hv.out).mono ?_
      rintro e w3 ⟨rfl, hb3⟩
      have hb := hb2.trans (hb3.mono hb2.size)
      have ho3 := own_below hown hb3 (Nat.le_refl _)
      clear hown
      go_wp2_with fail
      refine (specBookingsValid_any _ _ _ _ _ _ _ Hlen.out (by omega) (Rd.of_own ho3) Hv3.out).mono ?_
      rintro e w4 ⟨rfl, hb4⟩
      have hb' := hb.trans (hb4.mono hb.size)
      go_wp2
      go_ret2
      rw [seatsBook_t Hj.out, Hj.out, Hlen.out]
      exact ⟨_, _, rfl, own_below ho3 hb4 (Nat.le_refl _), hb'⟩
end Go.Proofs.Ytpcmkegogcffiaa

/- Walks: container/heap at the heap of towns: Push, Pop. -/
import Derived.Test.YtdnjeahbnidefaaHw5
namespace Go.Proofs.Ytdnjeahbnidefaa
open Go.RowKit

/-- what Push leaves -/
def PushEnd (w : World) (h base g n : Nat) (xs : List (Int × Int)) (z : Int × Int) (e : Ending) (w' : World) : Prop :=
  e = .returned (.tuple #[]) ∧ ∃ g' c' ys, HP w' h base g' (n + 1) c' ys ∧ HeapN snd2 ys (n + 1) ∧ (∀ u, u ∈ ys ↔ u = z ∨ u ∈ xs) ∧ HStep w w' h g g'
/-- what Pop leaves -/
def PopEnd (w : World) (h base g n c : Nat) (xs : List (Int × Int)) (e : Ending) (w' : World) : Prop :=
  ∃ z ys, e = .returned (.iface 82 (.agg #[.int .i64 z.1, .int .i64 z.2])) ∧ HP w' h base g n c ys ∧ HeapN snd2 ys n ∧ (∀ u, u ∈ xs ↔ u = z ∨ u ∈ ys) ∧ (∀ u, u ∈ xs → z.2 ≤ u.2) ∧ HStep w w' h g g
theorem PushEnd.mk {w w' : World} {h base g n g' c' : Nat} {xs ys : List (Int × Int)} {z : Int × Int} (h1 : HP w' h base g' (n + 1) c' ys) (h2 : HeapN snd2 ys (n + 1)) (h3 : ∀ u, u ∈ ys ↔ u ∈ xs ++ [z]) (h4 : HStep w w' h g g') : PushEnd w h base g n xs z (.returned (.tuple #[])) w' :=
  ⟨rfl, g', c', ys, h1, h2, fun u => (h3 u).trans (by rw [List.mem_append, List.mem_singleton, or_comm]), h4⟩

set_option maxRecDepth 100000 in
set_option maxHeartbeats 1000000 in
theorem heapPush_any (h base g n c : Nat) (xs : List (Int × Int)) (x y : Int) (w : World) (hp : HP w h base g n c xs) (hn : n < 1000000) (hh : HeapN snd2 xs n) :
    Calls Try.prog 64 #[.iface 80 (.pointer (some ⟨h, 0, none⟩)), .iface 82 (.agg #[.int .i64 x, .int .i64 y])] w (PushEnd w h base g n xs (x, y)) := by
  have Hh : Hid (HeapN snd2 xs n) := hideIt hh
  have Hl := hideIt hp.2.1
  have hm := m_Push (w := w) ⟨h, 0, none⟩
  clear hh
  go_enter Try.func64, Try.ntmps64
  go_wp2_with fail
  refine (thPush_any h base g n c xs x y w hp (by omega)).mono ?_
  rintro e w1 ⟨rfl, g1, c1, hp1, hs1⟩
  have hm1 := m_Len hp1.cell
  have Hp1 : Hid (HP w1 h base g1 (n + 1) c1 (xs ++ [(x, y)])) := hideIt hp1
  have hup := Hh.out.snoc Hl.out (x, y)
  have hsub : IntKind.i64.wrap ((n : Int) + 1 - 1) = (n : Int) := by rw [show (n : Int) + 1 - 1 = n by omega]; exact IntWalk.i64_in _ (by omega)
  have hsub2 : IntKind.i64.wrap (n : Int) = (n : Int) := IntWalk.i64_in _ (by omega)
  clear hm hp hp1
  go_wp2_with fail
  refine (thLen_any _ _ _ _).mono ?_
  rintro e w2 ⟨rfl, rfl⟩
  go_wp2_with fail
  refine (heapUp_any h base g1 (n + 1) c1 n _ _ Hp1.out (by omega) (by omega) hup).mono ?_
  rintro e w3 ⟨rfl, ys, ht, hy⟩
  have hs3 := hs1.trans (HStep.of_grown h ht.2.2)
  go_wp2
  go_end0
  exact PushEnd.mk ht.1 hy ht.2.1 hs3

set_option maxRecDepth 100000 in
set_option maxHeartbeats 1000000 in
theorem heapPop_any (h base g n c : Nat) (xs : List (Int × Int)) (w : World) (hp : HP w h base g (n + 1) c xs) (hn : n < 1000000) (hh : HeapN snd2 xs (n + 1)) :
    Calls Try.prog 63 #[.iface 80 (.pointer (some ⟨h, 0, none⟩))] w (PopEnd w h base g n c xs) := by
  have Hh : Hid (HeapN snd2 xs (n + 1)) := hideIt hh
  have Hl := hideIt hp.2.1
  have Hp : Hid (HP w h base g (n + 1) c xs) := hideIt hp
  have hm := m_Len hp.cell
  have hm2 := m_Swap hp.cell
  have hsub : IntKind.i64.wrap ((n : Int) + 1 - 1) = (n : Int) := by rw [show (n : Int) + 1 - 1 = n by omega]; exact IntWalk.i64_in _ (by omega)
  have hsub2 : IntKind.i64.wrap (n : Int) = (n : Int) := IntWalk.i64_in _ (by omega)
  clear hh hp
  go_enter Try.func63, Try.ntmps63
  go_wp2_with fail
  refine (thLen_any _ _ _ _).mono ?_
  rintro e w2 ⟨rfl, rfl⟩
  go_wp2_with fail
  refine (thSwap_any g (n + 1) c base xs 0 n w Hl.out Hp.out.2.2 (by omega) (by omega) (by omega)).mono ?_
  rintro e w1 ⟨rfl, ho1, hg1⟩
  have hp1 := Hp.out.row hg1 (by rw [swp_len]; exact Hl.out) ho1
  have hdn := Hh.out.dn Hl.out
  clear ho1 hm hm2
  go_wp2_with fail
  refine (heapDown_any h base g (n + 1) c n _ _ hp1 (by omega) (by omega) hdn).mono ?_
  rintro e w2 ⟨v, ys, rfl, ht, hy, hrest⟩
  have hm3 := m_Pop (w := w2) ⟨h, 0, none⟩
  have Ht : Hid (Turned w1 w2 h base g (n + 1) c (swp xs 0 n) ys) := hideIt ht
  have htop := hideIt (show ys.getD n (0, 0) = xs.getD 0 (0, 0) by
    rw [hrest n (Nat.le_refl _), swp_at (by rw [Hl.out]; omega) (by rw [Hl.out]; omega), if_pos rfl])
  have Hy : Hid (HeapN snd2 ys n) := hideIt hy
  clear hp1 ht hy hrest hdn
  go_wp2_with fail
  refine (thPop_any h base g n c ys _ Ht.out.1 (by omega)).mono ?_
  rintro e w3 ⟨rfl, hp3, hs3⟩
  have hs := ((HStep.of_grown h hg1).trans (HStep.of_grown h Ht.out.2.2)).trans hs3
  have hmem : ∀ u, u ∈ xs ↔ u = ys.getD n (0, 0) ∨ u ∈ ys.take n := fun u => by
    rw [← mem_take_last (Ht.out.1.2.1), Ht.out.2.1 u, mem_swp (by rw [Hl.out]; omega) (by rw [Hl.out]; omega)]
  have hleast : ∀ u, u ∈ xs → (ys.getD n (0, 0)).2 ≤ u.2 := fun u hu => by
    rw [htop.out]
    exact Hh.out.least_mem Hl.out hu
  have hheap := Hy.out.take (Nat.le_refl n)
  have Hmem : Hid (∀ u, u ∈ xs ↔ u = ys.getD n (0, 0) ∨ u ∈ ys.take n) := hideIt hmem
  have Hleast : Hid (∀ u, u ∈ xs → (ys.getD n (0, 0)).2 ≤ u.2) := hideIt hleast
  clear hm3 hmem hleast
  go_wp2
  go_ret
  exact ⟨ys.getD n (0, 0), ys.take n, rfl, hp3, hheap, Hmem.out, Hleast.out, hs⟩
end Go.Proofs.Ytdnjeahbnidefaa

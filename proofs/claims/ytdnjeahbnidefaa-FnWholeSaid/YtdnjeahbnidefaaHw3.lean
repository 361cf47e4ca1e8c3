/- Walks: the heap of towns: its own Push and Pop, walked. -/
import Derived.Test.YtdnjeahbnidefaaHw2
namespace Go.Proofs.Ytdnjeahbnidefaa
open Go.RowKit

theorem own_drewH {w : World} {base t size n : Nat} {v : Value} {xs : List Value} (h : w.ownsRow base t size v n xs) : w.drew.ownsRow base t size v n xs := h
theorem undrew {w w' : World} {r : Option Nat} (h : w.drew.grownBy w' r) : w.grownBy w' r := ⟨h.os, h.tape, h.output, h.size, h.block⟩
set_option maxRecDepth 100000 in
set_option maxHeartbeats 1000000 in
theorem thPush_any (h base g n c : Nat) (xs : List (Int × Int)) (x y : Int) (w : World) (hp : HP w h base g n c xs) (hn : n ≤ 1000000) :
    Calls Try.prog 109 #[.pointer (some ⟨h, 0, none⟩), .iface 82 (.agg #[.int .i64 x, .int .i64 y])] w fun e w' => e = .returned (.tuple #[]) ∧ ∃ g' c', HP w' h base g' (n + 1) c' (xs ++ [(x, y)]) ∧ HStep w w' h g g' := by
  obtain ⟨i0, hi, hz0, hz1, hz2⟩ := info_parts info_townAt
  have hta := assert_town x y
  have hcell := hp.cell
  have hbase := hp.base
  have hlt := hp.lt
  have hfr : w.frozen? ⟨h, 0, none⟩ = false := by simp [World.frozen?, hp.1]
  have Hln := hideIt (show (xs ++ [(x, y)]).length = n + 1 by rw [List.length_append, hp.2.1]; rfl)
  have Hfl := hideIt (fl2_snoc xs (x, y))
  have Hp : Hid (HP w h base g n c xs) := hideIt hp
  have hown := hp.2.2
  clear hp
  go_enter Try.func109, Try.ntmps109
  go_wp2
  go_region_law (first
    | (refine step_append_at rfl (.tmp 7) (.tmp 10) 84 (by rfl) base 82 i0 _ 2 16 Try.underlying84 hi hz0 hz1 hz2 rfl (by omega) _ n (fl2 xs) (by rfl) (hown.alloc _) ⟨w.heap.size, 0, none⟩ 1 1 [.int .i64 x, .int .i64 y] (by rfl) rfl (news_at (cs := #[.int .i64 x, .int .i64 y]) (t := 82) (heap_alloc_new w _)) (by simp [Value.oneCell']) (by unfold maxLen; omega) (by omega) (by simp; omega) (n + 1) rfl ?_
       intro A1 c1 w1 hown1 hgrow1 hwhere
       have hmid := Hp.out.mid (hgrow1)
       have hc1 : w1.cell? ⟨h, 0, none⟩ = some (.slice (some ⟨g, 0, none⟩) n c) := cell_of_row w1 h 0 _ _ _ hmid
       have hf1 : w1.frozen? ⟨h, 0, none⟩ = false := by simp [World.frozen?, hmid]
       clear hmid)
    | (refine step_append_at rfl (.tmp 7) (.tmp 10) 84 (by rfl) base 82 i0 _ 2 16 Try.underlying84 hi hz0 hz1 hz2 rfl (by omega) _ n (fl2 xs) (by rfl) (own_drewH (hown.alloc (.cells #[.int .i64 x, .int .i64 y] 82))) ⟨w.heap.size, 0, none⟩ 1 1 [.int .i64 x, .int .i64 y] (by rfl) rfl (news_at (w := (w.alloc (.cells #[.int .i64 x, .int .i64 y] 82)).drew) (cs := #[.int .i64 x, .int .i64 y]) (t := 82) (heap_alloc_new w _)) (by simp [Value.oneCell']) (by unfold maxLen; omega) (by omega) (by simp; omega) (n + 1) rfl ?_
       intro A1 c1 w1 hown1 hgrow1 hwhere
       have hmid := Hp.out.mid (undrew hgrow1)
       have hc1 : w1.cell? ⟨h, 0, none⟩ = some (.slice (some ⟨g, 0, none⟩) n c) := cell_of_row w1 h 0 _ _ _ hmid
       have hf1 : w1.frozen? ⟨h, 0, none⟩ = false := by simp [World.frozen?, hmid]
       clear hmid))
  all_goals
    obtain ⟨b1, rfl, _, _⟩ := own_some hown1 (by omega)
    have hA : b1 = g ∨ w.heap.size ≤ b1 := by
      rcases hwhere with e | e
      · exact .inl (Option.some.inj e)
      · have e2 := Option.some.inj e
        simp at e2
        omega
    have hown2 : w1.ownsRow base 82 2 (.slice (some ⟨b1, 0, none⟩) (n + 1) c1) (n + 1) (fl2 (xs ++ [(x, y)])) := by rw [Hfl.out]; exact hown1
    have hres := Hp.out.pushed (w2 := w1.setCell ⟨h, 0, none⟩ (.slice (some ⟨b1, 0, none⟩) (n + 1) c1)) (by first | exact hgrow1 | exact undrew hgrow1) Hln.out hown2 rfl hA
    clear hwhere hown1 hown2 hgrow1
    go_end0
    exact ⟨rfl, b1, c1, hres⟩
end Go.Proofs.Ytdnjeahbnidefaa

/- Walks: the heap of towns: its own Pop. -/
import Derived.Test.YtdnjeahbnidefaaHw3
import Derived.Deep.RegionHeld
namespace Go.Proofs.Ytdnjeahbnidefaa
open Go.RowKit

theorem fl2_take_eq (xs : List (Int × Int)) (n : Nat) : fl2 (xs.take n) = (fl2 xs).take (n * 2) := by
  induction xs generalizing n with
  | nil => simp [fl2]
  | cons x xs ih =>
    cases n with
    | zero => simp [fl2]
    | succ n =>
      rw [List.take_succ_cons, show (n + 1) * 2 = n * 2 + 1 + 1 by omega]
      show Value.int .i64 x.1 :: Value.int .i64 x.2 :: fl2 (xs.take n) = List.take (n * 2 + 1 + 1) (Value.int .i64 x.1 :: Value.int .i64 x.2 :: fl2 xs)
      rw [List.take_succ_cons, List.take_succ_cons, ih n]
theorem own_short {w : World} {base t g n c : Nat} {xs : List (Int × Int)} (h : w.ownsRow base t 2 (.slice (some ⟨g, 0, none⟩) (n + 1) c) (n + 1) (fl2 xs)) : w.ownsRow base t 2 (.slice (some ⟨g, 0, none⟩) n c) n (fl2 (xs.take n)) := by
  obtain ⟨h1, h2⟩ := h
  rw [fl2_len] at h1
  refine ⟨by rw [fl2_len, List.length_take]; omega, ?_⟩
  rcases h2 with ⟨hv, _⟩ | ⟨g', c', cur, hv, hb, hh, hn, hc, hs, ht⟩
  · cases hv
  · simp only [Value.slice.injEq, Option.some.injEq, Addr.mk.injEq] at hv
    obtain ⟨⟨rfl, _⟩, _, rfl⟩ := hv
    refine .inr ⟨g, c, cur, rfl, hb, hh, by omega, hc, hs, ?_⟩
    rw [fl2_take_eq, ← ht, List.take_take, Nat.min_eq_left (by omega)]
theorem HP.popped {w : World} {h base g n c : Nat} {xs : List (Int × Int)} (hp : HP w h base g (n + 1) c xs) (o : Obj) : HP ((w.setCell ⟨h, 0, none⟩ (.slice (some ⟨g, 0, none⟩) n c)).alloc o) h base g n c (xs.take n) ∧ HStep w ((w.setCell ⟨h, 0, none⟩ (.slice (some ⟨g, 0, none⟩) n c)).alloc o) h g g := by
  have hne := hp.ne
  have hs : h < (w.setCell ⟨h, 0, none⟩ (.slice (some ⟨g, 0, none⟩) n c)).heap.size := by have := hp.lt; simpa using this
  refine ⟨⟨(Below.heap_alloc _ o h hs).trans (heap_setCell_same w h 0 _ _ _ hp.1), by rw [List.length_take, hp.2.1]; omega, ((own_short hp.2.2).kept (grown_setH w h 0 _) (.inr (fun e => hne (Option.some.inj e).symm))).alloc o⟩, ⟨rfl, rfl, rfl⟩, by simp, fun k hk h1 h2 => ?_, .inl rfl⟩
  rw [Below.heap_alloc _ o k (by simpa using hk), Below.heap_setCell _ _ _ k (fun e => h1 e)]
set_option maxRecDepth 100000 in
set_option maxHeartbeats 1000000 in
theorem thPop_any (h base g n c : Nat) (xs : List (Int × Int)) (w : World) (hp : HP w h base g (n + 1) c xs) (hn : n ≤ 1000000) :
    Calls Try.prog 108 #[.pointer (some ⟨h, 0, none⟩)] w fun e w' => e = .returned (.iface 82 (.agg #[.int .i64 (a2 xs n), .int .i64 (b2 xs n)])) ∧ HP w' h base g n c (xs.take n) ∧ HStep w w' h g g := by
  have hcell := hp.cell
  obtain ⟨hx, hy⟩ := row2_a hp.2.2 (k := n) (by rw [hp.2.1]; omega)
  have hfr : w.frozen? ⟨h, 0, none⟩ = false := by simp [World.frozen?, hp.1]
  have hlt := hp.lt
  have hcap : n + 1 ≤ c := own_cap hp.2.2
  obtain ⟨x, ex⟩ : ∃ u, a2 xs n = u := ⟨_, rfl⟩
  obtain ⟨y, ey⟩ : ∃ u, b2 xs n = u := ⟨_, rfl⟩
  rw [ex] at hx ⊢
  rw [ey] at hy ⊢
  have Hp : Hid (HP w h base g (n + 1) c xs) := hideIt hp
  have hcA : ∀ o, (w.alloc o).cell? ⟨h, 0, none⟩ = some (.slice (some ⟨g, 0, none⟩) (n + 1) c) := fun o => (World.cell?_alloc_some w _ o (by rw [hcell]; rfl)).trans hcell
  have hsub : IntKind.i64.wrap ((n : Int) + 1 - 1) = (n : Int) := by rw [show (n : Int) + 1 - 1 = n by omega]; exact IntWalk.i64_in _ (by omega)
  have hsub2 : IntKind.i64.wrap (n : Int) = (n : Int) := IntWalk.i64_in _ (by omega)
  have hxA := fun o => (World.cell?_alloc_some w ⟨g, n * 2, none⟩ o (by rw [hx]; rfl)).trans hx
  have hyA := fun o => (World.cell?_alloc_some w ⟨g, n * 2 + 1, none⟩ o (by rw [hy]; rfl)).trans hy
  have hx1 := hxA (.cells #[.int .i64 0, .int .i64 0] 82)
  have hy1 := hyA (.cells #[.int .i64 0, .int .i64 0] 82)
  have hc1 := hcA (.cells #[.int .i64 0, .int .i64 0] 82)
  have hc2 := hcA (.cells #[.int .i64 x, .int .i64 y] 82)
  have hnn : (n : Int) < (n : Int) + 1 := by omega
  clear hp ex ey hxA hyA hcA
  go_enter Try.func108, Try.ntmps108
  go_wp2
  go_region
  have hfrA : (w.alloc (.cells #[.int .i64 x, .int .i64 y] 82)).frozen? ⟨h, 0, none⟩ = false := by simp [World.frozen?, (Below.heap_alloc w _ h hlt).trans Hp.out.1]
  clear hx hy hx1 hy1 hc1
  go_wp2
  go_region
  have hne : w.heap.size ≠ h := by omega
  have hne2 : h ≠ w.heap.size := by omega
  have hres := Hp.out.popped (.cells #[.int .i64 x, .int .i64 y] 82)
  go_wp2
  go_ret
  exact ⟨rfl, hres.1, hres.2⟩
end Go.Proofs.Ytdnjeahbnidefaa

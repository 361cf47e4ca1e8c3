/- What a drawing shares with its callers: memory that the reader's turns leave, tables of two and of three numbers. -/
import Derived.Test.YtckjagpjljbohaaDraw
namespace Go.Proofs.Ytckjagpjljbohaa
open Go.RowKit

theorem grown_drew {w w' : World} {r : Option Nat} (h : w.grownBy w' r) : w.grownBy w'.drew r := ⟨h.os, h.tape, h.output, h.size, h.block⟩
theorem grown_bel {w w1 w2 : World} {g : Nat} (h : w.grownBy w1 (some g)) (hb : Below w1.heap.size w1 w2) : w.grownBy w2 (some g) := grown_new h (grown_below hb (Nat.le_refl _) none) (fun k e => by cases e)
theorem Rdr.bel {w w' : World} {g K : Nat} (h : Rdr w g K) (hb : Below w.heap.size w w') : Rdr w' g K := h.grown (grown_below hb (Nat.le_refl _) none) (fun k e => by cases e)
theorem own_drewB {w : World} {base t size n : Nat} {v : Value} {xs : List Value} (h : w.ownsRow base t size v n xs) : w.drew.ownsRow base t size v n xs := h
/-- a table that lay new ahead of a drawing -/
theorem cell_new_pick {w w' : World} {g : Nat} (hgl : g < w.heap.size) (cs : Array Value) (t : TypeId) (hg : (w.alloc (.cells cs t)).grownBy w' (some g)) : w'.heap[w.heap.size]? = some (.cells cs t) :=
  (hg.block w.heap.size (by simp) (fun e => by have := Option.some.inj e; omega)).trans (heap_alloc_new w _)
theorem pair_at (a b : Int) {v : Int} (h0 : 0 ≤ v) (h1 : v < 2) : ∃ u : Int, (#[Value.int .i64 a, Value.int .i64 b])[v.toNat]? = some (.int .i64 u) ∧ (u = a ∨ u = b) := by
  rcases (show v = 0 ∨ v = 1 by omega) with rfl | rfl
  · exact ⟨a, rfl, .inl rfl⟩
  · exact ⟨b, rfl, .inr rfl⟩
theorem tri_at (a b c : Int) {v : Int} (h0 : 0 ≤ v) (h1 : v < 3) : ∃ u : Int, (#[Value.int .i64 a, Value.int .i64 b, Value.int .i64 c])[v.toNat]? = some (.int .i64 u) ∧ (u = a ∨ u = b ∨ u = c) := by
  rcases (show v = 0 ∨ v = 1 ∨ v = 2 by omega) with rfl | rfl | rfl
  · exact ⟨a, rfl, .inl rfl⟩
  · exact ⟨b, rfl, .inr (.inl rfl)⟩
  · exact ⟨c, rfl, .inr (.inr rfl)⟩
/-- a cell of such a table -/
theorem tab_cell {w w' : World} {g : Nat} (hgl : g < w.heap.size) {cs : Array Value} {t : TypeId} (hg : (w.alloc (.cells cs t)).grownBy w' (some g)) {v : Int} {u : Value} (hu : cs[v.toNat]? = some u) : w'.cell? ⟨w.heap.size, v.toNat, none⟩ = some u :=
  (cell_of_row w' w.heap.size v.toNat _ _ _ (cell_new_pick hgl cs t hg)).trans hu
end Go.Proofs.Ytckjagpjljbohaa

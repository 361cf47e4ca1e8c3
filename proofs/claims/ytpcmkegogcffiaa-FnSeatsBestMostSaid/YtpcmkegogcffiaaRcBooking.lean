/- The record Booking: its cells in a row. Printed by gen_rec.py. -/
import Derived.Test.YtpcmkegogcffiaaProg
import Derived.Test.YtpcmkegogcffiaaBase
namespace Go.Proofs.Ytpcmkegogcffiaa
open Go.RowKit

theorem rowB_a {w : World} {base t g cap n : Nat} {xs : List (Int × Int × Bool)} (h : w.ownsRow base t 3 (.slice (some ⟨g, 0, none⟩) n cap) n (flB xs)) {k : Nat} (hk : k < xs.length) :
    w.cell? ⟨g, k * 3, none⟩ = some (.int .i64 (aB xs k)) ∧ w.cell? ⟨g, k * 3 + 1, none⟩ = some (.int .i64 (bB xs k)) ∧ w.cell? ⟨g, k * 3 + 2, none⟩ = some (.bool (cB xs k)) := by
  have hl := h.1
  rw [flB_len] at hl
  exact ⟨(h.cellAt (k * 3) (by omega)).trans (flB_a xs k hk), (h.cellAt (k * 3 + 1) (by omega)).trans (flB_b xs k hk), (h.cellAt (k * 3 + 2) (by omega)).trans (flB_c xs k hk)⟩
theorem rowB_store {w : World} {base t g cap n : Nat} {xs : List (Int × Int × Bool)} (h : w.ownsRow base t 3 (.slice (some ⟨g, 0, none⟩) n cap) n (flB xs)) {k : Nat} (hk : k < xs.length) (a b : Int) (c : Bool) :
    (((w.setCell ⟨g, k * 3, none⟩ (.int .i64 a)).setCell ⟨g, k * 3 + 1, none⟩ (.int .i64 b)).setCell ⟨g, k * 3 + 2, none⟩ (.bool c)).ownsRow base t 3 (.slice (some ⟨g, 0, none⟩) n cap) n (flB (xs.set k (a, b, c))) := by
  have h1 := (h.stored (k * 3) (.int .i64 a)).1
  have h2 := (h1.stored (k * 3 + 1) (.int .i64 b)).1
  have h3 := (h2.stored (k * 3 + 2) (.bool c)).1
  have e1 : (flB xs).set (k * 3) (.int .i64 a) = flB (xs.set k (a, bB xs k, cB xs k)) :=
    flat_set encB 3 encB_len xs k 0 _ _ _ (getD_some xs k (0, 0, false) hk) (by omega) rfl
  rw [e1] at h3
  have e2 : (flB (xs.set k (a, bB xs k, cB xs k))).set (k * 3 + 1) (.int .i64 b) = flB ((xs.set k (a, bB xs k, cB xs k)).set k (a, b, cB xs k)) :=
    flat_set encB 3 encB_len _ k 1 (a, bB xs k, cB xs k) _ _ (by rw [List.getElem?_set_self hk]) (by omega) rfl
  rw [e2, List.set_set] at h3
  have e3 : (flB (xs.set k (a, b, cB xs k))).set (k * 3 + 2) (.bool c) = flB ((xs.set k (a, b, cB xs k)).set k (a, b, c)) :=
    flat_set encB 3 encB_len _ k 2 (a, b, cB xs k) _ _ (by rw [List.getElem?_set_self hk]) (by omega) rfl
  rw [e3, List.set_set] at h3
  exact h3
def markB (k0 : Int) (n : Nat) : List (Int × Int × Bool) := (List.range n).map fun (i : Nat) => (k0 + 3 * i, k0 + 3 * i + 1, (k0 + 3 * i + 1 + 1) % 3 == 0)
theorem markB_len (k0 : Int) (n : Nat) : (markB k0 n).length = n := by simp [markB]
theorem markB_at (k0 : Int) (n k : Nat) (h : k < n) : aB (markB k0 n) k = k0 + 3 * k ∧ bB (markB k0 n) k = k0 + 3 * k + 1 ∧ cB (markB k0 n) k = ((k0 + 3 * k + 1 + 1) % 3 == 0) := by simp [aB, bB, cB, markB, h]
theorem info_Booking : (Try.prog.info? 40).map (fun i => (i.zero, i.size, i.bytes)) = some (some (.agg #[.int .i64 0, .int .i64 0, .bool false]), 3, 24) := by kernel_rfl
end Go.Proofs.Ytpcmkegogcffiaa

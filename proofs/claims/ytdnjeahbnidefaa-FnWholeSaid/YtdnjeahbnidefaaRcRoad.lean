/- The record Road: its cells in a row. Printed by gen_rec.py. -/
import Derived.Test.YtdnjeahbnidefaaProg
import Derived.Test.YtdnjeahbnidefaaBase
namespace Go.Proofs.Ytdnjeahbnidefaa
open Go.RowKit

theorem row3_a {w : World} {base t g cap n : Nat} {xs : List (Int × Int × Int)} (h : w.ownsRow base t 3 (.slice (some ⟨g, 0, none⟩) n cap) n (fl3 xs)) {k : Nat} (hk : k < xs.length) :
    w.cell? ⟨g, k * 3, none⟩ = some (.int .i64 (a3 xs k)) ∧ w.cell? ⟨g, k * 3 + 1, none⟩ = some (.int .i64 (b3 xs k)) ∧ w.cell? ⟨g, k * 3 + 2, none⟩ = some (.int .i64 (c3 xs k)) := by
  have hl := h.1
  rw [fl3_len] at hl
  exact ⟨(h.cellAt (k * 3) (by omega)).trans (fl3_a xs k hk), (h.cellAt (k * 3 + 1) (by omega)).trans (fl3_b xs k hk), (h.cellAt (k * 3 + 2) (by omega)).trans (fl3_c xs k hk)⟩
theorem row3_store {w : World} {base t g cap n : Nat} {xs : List (Int × Int × Int)} (h : w.ownsRow base t 3 (.slice (some ⟨g, 0, none⟩) n cap) n (fl3 xs)) {k : Nat} (hk : k < xs.length) (a b : Int) (c : Int) :
    (((w.setCell ⟨g, k * 3, none⟩ (.int .i64 a)).setCell ⟨g, k * 3 + 1, none⟩ (.int .i64 b)).setCell ⟨g, k * 3 + 2, none⟩ (.int .i64 c)).ownsRow base t 3 (.slice (some ⟨g, 0, none⟩) n cap) n (fl3 (xs.set k (a, b, c))) := by
  have h1 := (h.stored (k * 3) (.int .i64 a)).1
  have h2 := (h1.stored (k * 3 + 1) (.int .i64 b)).1
  have h3 := (h2.stored (k * 3 + 2) (.int .i64 c)).1
  have e1 : (fl3 xs).set (k * 3) (.int .i64 a) = fl3 (xs.set k (a, b3 xs k, c3 xs k)) :=
    flat_set enc3 3 enc3_len xs k 0 _ _ _ (getD_some xs k (0, 0, 0) hk) (by omega) rfl
  rw [e1] at h3
  have e2 : (fl3 (xs.set k (a, b3 xs k, c3 xs k))).set (k * 3 + 1) (.int .i64 b) = fl3 ((xs.set k (a, b3 xs k, c3 xs k)).set k (a, b, c3 xs k)) :=
    flat_set enc3 3 enc3_len _ k 1 (a, b3 xs k, c3 xs k) _ _ (by rw [List.getElem?_set_self hk]) (by omega) rfl
  rw [e2, List.set_set] at h3
  have e3 : (fl3 (xs.set k (a, b, c3 xs k))).set (k * 3 + 2) (.int .i64 c) = fl3 ((xs.set k (a, b, c3 xs k)).set k (a, b, c)) :=
    flat_set enc3 3 enc3_len _ k 2 (a, b, c3 xs k) _ _ (by rw [List.getElem?_set_self hk]) (by omega) rfl
  rw [e3, List.set_set] at h3
  exact h3
theorem info_Road : (Try.prog.info? 32).map (fun i => (i.zero, i.size, i.bytes)) = some (some (.agg #[.int .i64 0, .int .i64 0, .int .i64 0]), 3, 24) := by kernel_rfl
end Go.Proofs.Ytdnjeahbnidefaa

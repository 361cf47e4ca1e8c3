/- Walks: RoadsAdd of the program. -/
import Derived.Test.YtdnjeahbnidefaaRo8
import Derived.Test.YtdnjeahbnidefaaRo3
import Derived.Test.YtdnjeahbnidefaaSlRoad
namespace Go.Proofs.Ytdnjeahbnidefaa
open Go.RowKit

theorem roadsValid_16 {n : Int} {rs : List (Int × Int × Int)} (h : roadsValid n rs = true) : rs.length ≤ 16 := by
  obtain ⟨m, rfl, hv⟩ := roadsValid_t h
  exact hv.l16
theorem getD_left {rs : List (Int × Int × Int)} {r : Int × Int × Int} {k : Nat} (hk : k < rs.length) : (rs ++ [r]).getD k (0, 0, 0) = rs.getD k (0, 0, 0) := by
  rw [List.getD_eq_getElem?_getD, List.getD_eq_getElem?_getD, List.getElem?_append_left hk]
/-- roads with one more are valid only if they are -/
theorem roadsValid_snoc_f {n : Int} {rs : List (Int × Int × Int)} {r : Int × Int × Int} (h : roadsValid n rs = false) : roadsValid n (rs ++ [r]) = false := by
  cases hv : roadsValid n (rs ++ [r])
  · rfl
  obtain ⟨m, rfl, g⟩ := roadsValid_t hv
  have hlen : (rs ++ [r]).length = rs.length + 1 := by simp
  have l16 := g.l16
  have hv2 : RV m rs := ⟨g.n1, g.n8, by omega, fun k hk => by
    have := g.road k (by omega)
    unfold a3 b3 c3 at this ⊢
    rw [getD_left hk] at this
    exact this, fun j k hj hk => by
    have := g.apart j k hj (by omega)
    unfold a3 b3 at this ⊢
    rw [getD_left hk, getD_left (by omega)] at this
    exact this⟩
  rw [roadsValid_of hv2] at h
  cases h
theorem rd_new3 (w : World) (u v x : Value) (t : TypeId) : Rd (w.alloc (.cells #[u, v, x] t)) (some ⟨w.heap.size, 0, none⟩) [u, v, x] := fun _ =>
  ⟨w.heap.size, 0, rfl, by simp, fun i r hr => by
    match i, hr with
    | 0, hr => simp at hr; subst hr; simp
    | 1, hr => simp at hr; subst hr; simp
    | 2, hr => simp at hr; subst hr; simp
    | i + 3, hr => simp at hr⟩
theorem fl3_one1 (b : Int × Int × Int) : fl3 [b] = [.int .i64 b.1, .int .i64 b.2.1, .int .i64 b.2.2] := rfl

end Go.Proofs.Ytdnjeahbnidefaa

/- Walks: RoadsAdd of the program. -/
import Derived.Test.YtpiknklaikcilaaRo8
import Derived.Test.YtpiknklaikcilaaRo3
import Derived.Test.YtpiknklaikcilaaSlRoad
namespace Go.Proofs.Ytpiknklaikcilaa
open Go.RowKit

theorem roadsValid_16 {n : Int} {rs : List (Int × Int × Int)} (h : roadsValid n rs = true) : rs.length ≤ 16 := by
  obtain ⟨m, rfl, hv⟩ := roadsValid_t h
  exact hv.l16
theorem getD_left {rs : List (Int × Int × Int)} {r : Int × Int × Int} {k : Nat} (hk : k < rs.length) : (rs ++ [r]).getD k (0, 0, 0) = rs.getD k (0, 0, 0) := by
  rw [List.getD_eq_getElem?_getD, List.getD_eq_getElem?_getD, List.getElem?_append_left hk]
/-- roads with one more are valid only if they are -/
theorem roadsValid_snoc_f {n : Int} {rs : List (Int × Int × Int)} {r : Int × Int × Int} (h : roadsValid n rs = false) : roadsValid n (rs ++ [r]) = false := by
  cases hv : roadsValid n (rs ++ [r])
  · rfl
  obtain ⟨m, rfl, g⟩ := roadsValid_t hv
  have hlen : (rs ++ [r]).length = rs.length + 1 := by simp
  have l16 := g.l16
  have hv2 : RV m rs := ⟨g.n1, g.n8, by omega, fun k hk => by
    have := g.road k (by omega)
    unfold a3 b3 c3 at this ⊢
    rw [getD_left hk] at this
    exact this, fun j k hj hk => by
    have := g.apart j k hj (by omega)
    unfold a3 b3 at this ⊢
    rw [getD_left hk, getD_left (by omega)] at this
    exact this⟩
  rw [roadsValid_of hv2] at h
  cases h
theorem rd_new3 (w : World) (u v x : Value) (t : TypeId) : Rd (w.alloc (.cells #[u, v, x] t)) (some ⟨w.heap.size, 0, none⟩) [u, v, x] := fun _ =>
  ⟨w.heap.size, 0, rfl, by simp, fun i r hr => by
    match i, hr with
    | 0, hr => simp at hr; subst hr; simp
    | 1, hr => simp at hr; subst hr; simp
    | 2, hr => simp at hr; subst hr; simp
    | i + 3, hr => simp at hr⟩
theorem fl3_one1 (b : Int × Int × Int) : fl3 [b] = [.int .i64 b.1, .int .i64 b.2.1, .int .i64 b.2.2] := rfl

set_option maxRecDepth 100000 in
set_option maxHeartbeats 1000000 in
theorem implRoadsAdd_any (n : Int) (a : Addr) (ls : List (Int × Int × Int)) (m cap : Nat) (x y z : Int) (w : World) (hl : ls.length = m) (hm : m ≤ 1048576) (hr : Rd w (some a) (fl3 ls)) :
    Calls Try.prog 41 #[.int .i64 n, .slice (some a) m cap, .agg #[.int .i64 x, .int .i64 y, .int .i64 z]] w (RetSB w 50 3 (roadsAdd n ls (x, y, z)).length (fl3 (roadsAdd n ls (x, y, z))) (roadsValid n (ls ++ [(x, y, z)]))) := by
  cases hv : roadsValid n ls
  · have Hv := hideIt hv
    clear hv
    have hj : roadsValid n (ls ++ [(x, y, z)]) = false := roadsValid_snoc_f Hv.out
    rw [roadsAdd_f hj, hj]
    clear hj
    go_enter Try.func41, Try.ntmps41
    go_wp2_with fail
    refine (implRoadsValid_any _ _ _ _ _ _ _ hl hm (hr.alloc _) Hv.out).mono ?_
    rintro e w1 ⟨rfl, hb1⟩
    have hb := ((Below.refl w.heap.size w).alloc (Nat.le_refl _) (.cells #[.int .i64 x, .int .i64 y, .int .i64 z] 50)).trans (hb1.mono (by simp))
    go_wp2
    go_ret2
    exact ⟨_, _, rfl, own_base (own_empty w1 50 3) hb.size, hb.alloc hb.size _⟩
  have m16 := roadsValid_16 hv
  rw [hl] at m16
  have Hv := hideIt hv
  clear hv
  have hlen : (ls ++ [(x, y, z)]).length = m + 1 := by rw [List.length_append, hl]; rfl
  cases hv : roadsValid n (ls ++ [(x, y, z)])
  all_goals
    have Hv3 := hideIt hv
    have hje := hv
    clear hv
    have Hlen := hideIt hlen
    have Hl := hideIt hl
    have Hje := hideIt hje
    clear hlen hl hje
    go_enter Try.func41, Try.ntmps41
    go_wp2_with fail
    refine (implRoadsValid_any _ _ _ _ _ _ _ Hl.out hm (hr.alloc _) Hv.out).mono ?_
    rintro e w1 ⟨rfl, hb1⟩
    have hcx := (hb1.cell (p := ⟨w.heap.size, 0, none⟩) (by simp)).trans (by simp : (w.alloc (.cells #[.int .i64 x, .int .i64 y, .int .i64 z] 50)).cell? ⟨w.heap.size, 0, none⟩ = some (.int .i64 x))
    have hcy := (hb1.cell (p := ⟨w.heap.size, 1, none⟩) (by simp)).trans (by simp : (w.alloc (.cells #[.int .i64 x, .int .i64 y, .int .i64 z] 50)).cell? ⟨w.heap.size, 1, none⟩ = some (.int .i64 y))
    have hcz := (hb1.cell (p := ⟨w.heap.size, 2, none⟩) (by simp)).trans (by simp : (w.alloc (.cells #[.int .i64 x, .int .i64 y, .int .i64 z] 50)).cell? ⟨w.heap.size, 2, none⟩ = some (.int .i64 z))
    have hb := ((Below.refl w.heap.size w).alloc (Nat.le_refl _) (.cells #[.int .i64 x, .int .i64 y, .int .i64 z] 50)).trans (hb1.mono (by simp))
    clear hb1
    go_wp2_with fail
    refine (concatRoad_any _ a ⟨w1.heap.size, 0, none⟩ ls [(x, y, z)] m 1 cap 1 _ Hl.out rfl hm (by omega) (((hr.below hb (Nat.le_refl _)).alloc _).alloc _) (by rw [fl3_one1]; exact (rd_new3 w1 _ _ _ _).alloc _) (by simp) (by simp) (by simp)).mono ?_
    rintro e w3 ⟨A3, c3, rfl, ho3, hb3⟩
    have hbo := ((hb.alloc hb.size (.cells #[.int .i64 x, .int .i64 y, .int .i64 z] 50)).alloc (Nat.le_trans hb.size (by simp)) _).trans (hb3.mono (Nat.le_trans hb.size (by simp; omega)))
    go_wp2_with fail
    refine (implRoadsValid_any _ _ _ _ _ _ _ Hlen.out (by omega) (Rd.of_own ho3) Hv3.out).mono ?_
    rintro e w4 ⟨rfl, hb4⟩
    have hbo4 := hbo.trans (hb4.mono hbo.size)
    go_wp2
    go_ret2
  · rw [roadsAdd_f Hje.out]
    exact ⟨_, _, rfl, own_base (own_empty w4 50 3) hbo4.size, hbo4.alloc hbo4.size _⟩
  · rw [roadsAdd_t Hje.out, Hlen.out]
    exact ⟨_, _, rfl, own_base (own_below ho3 hb4 (Nat.le_refl _)) (Nat.le_trans hb.size (by simp; omega)), hbo4⟩
end Go.Proofs.Ytpiknklaikcilaa

/- Walks: SeatsBook of the program. -/
import Derived.Test.YtpcmkegogcffiaaSt5
import Derived.Test.YtpcmkegogcffiaaSlBooking
namespace Go.Proofs.Ytpcmkegogcffiaa
open Go.RowKit

/-- what SeatsBook returns -/
def bookOk (n : Int) (ls : List (Int × Int × Bool)) (b : Int × Int × Bool) : Bool := bValid n ls && bValid n (ls ++ [b])
def seatsBook (n : Int) (ls : List (Int × Int × Bool)) (b : Int × Int × Bool) : List (Int × Int × Bool) := if bookOk n ls b = true then ls ++ [b] else []
theorem bookOk_t {n : Int} {ls : List (Int × Int × Bool)} {b : Int × Int × Bool} (h : bookOk n ls b = true) : bValid n ls = true ∧ bValid n (ls ++ [b]) = true := by
  simpa [bookOk] using h
theorem seatsBook_f {n : Int} {ls : List (Int × Int × Bool)} {b : Int × Int × Bool} (h : bookOk n ls b = false) : seatsBook n ls b = [] := by rw [seatsBook, h]; rfl
theorem seatsBook_t {n : Int} {ls : List (Int × Int × Bool)} {b : Int × Int × Bool} (h : bookOk n ls b = true) : seatsBook n ls b = ls ++ [b] := by rw [seatsBook, h]; rfl
theorem seatsBook_le (n : Int) (ls : List (Int × Int × Bool)) (b : Int × Int × Bool) : (seatsBook n ls b).length ≤ 1048576 := by
  unfold seatsBook; split
  · have := (bValid_parts (bookOk_t ‹_›).2).2.2.1; omega
  · simp
theorem rd_new3 (w : World) (u v x : Value) (t : TypeId) : Rd (w.alloc (.cells #[u, v, x] t)) (some ⟨w.heap.size, 0, none⟩) [u, v, x] := fun _ =>
  ⟨w.heap.size, 0, rfl, by simp, fun i r hr => by
    match i, hr with
    | 0, hr => simp at hr; subst hr; simp
    | 1, hr => simp at hr; subst hr; simp
    | 2, hr => simp at hr; subst hr; simp
    | i + 3, hr => simp at hr⟩
theorem flB_one1 (b : Int × Int × Bool) : flB [b] = [.int .i64 b.1, .int .i64 b.2.1, .bool b.2.2] := rfl

set_option maxRecDepth 100000 in
set_option maxHeartbeats 1000000 in
theorem implSeatsBook_any (n : Int) (a : Addr) (ls : List (Int × Int × Bool)) (m cap : Nat) (x y : Int) (z : Bool) (w : World) (hl : ls.length = m) (hm : m ≤ 1048576) (hr : Rd w (some a) (flB ls)) :
    Calls Try.prog 24 #[.int .i64 n, .slice (some a) m cap, .agg #[.int .i64 x, .int .i64 y, .bool z]] w (RetSB w 40 3 (seatsBook n ls (x, y, z)).length (flB (seatsBook n ls (x, y, z))) (bookOk n ls (x, y, z))) := by
  cases hv : bValid n ls
  · have Hv := hideIt hv
    clear hv
    have hj : bookOk n ls (x, y, z) = false := by rw [bookOk, Hv.out]; rfl
    rw [seatsBook_f hj, hj]
    clear hj
    go_enter Try.func24, Try.ntmps24
    go_wp2_with fail
    refine (implBookingsValid_any _ _ _ _ _ _ _ hl hm (hr.alloc _) Hv.out).mono ?_
    rintro e w1 ⟨rfl, hb1⟩
    have hb := ((Below.refl w.heap.size w).alloc (Nat.le_refl _) (.cells #[.int .i64 x, .int .i64 y, .bool z] 40)).trans (hb1.mono (by simp))
    go_wp2
    go_ret2
    exact ⟨_, _, rfl, own_base (own_empty w1 40 3) hb.size, hb.alloc hb.size _⟩
  have m16 := (bValid_parts hv).2.2.1
  rw [hl] at m16
  have Hv := hideIt hv
  clear hv
  have hje : bookOk n ls (x, y, z) = bValid n (ls ++ [(x, y, z)]) := by rw [bookOk, Hv.out]; rfl
  have hlen : (ls ++ [(x, y, z)]).length = m + 1 := by rw [List.length_append, hl]; rfl
  cases hv : bValid n (ls ++ [(x, y, z)])
  all_goals
    have Hv3 := hideIt hv
    rw [hv] at hje
    clear hv
    have Hlen := hideIt hlen
    have Hl := hideIt hl
    have Hje := hideIt hje
    clear hlen hl hje
    go_enter Try.func24, Try.ntmps24
    go_wp2_with fail
    refine (implBookingsValid_any _ _ _ _ _ _ _ Hl.out hm (hr.alloc _) Hv.out).mono ?_
    rintro e w1 ⟨rfl, hb1⟩
    have hcx := (hb1.cell (p := ⟨w.heap.size, 0, none⟩) (by simp)).trans (by simp : (w.alloc (.cells #[.int .i64 x, .int .i64 y, .bool z] 40)).cell? ⟨w.heap.size, 0, none⟩ = some (.int .i64 x))
    have hcy := (hb1.cell (p := ⟨w.heap.size, 1, none⟩) (by simp)).trans (by simp : (w.alloc (.cells #[.int .i64 x, .int .i64 y, .bool z] 40)).cell? ⟨w.heap.size, 1, none⟩ = some (.int .i64 y))
    have hcz := (hb1.cell (p := ⟨w.heap.size, 2, none⟩) (by simp)).trans (by simp : (w.alloc (.cells #[.int .i64 x, .int .i64 y, .bool z] 40)).cell? ⟨w.heap.size, 2, none⟩ = some (.bool z))
    have hb := ((Below.refl w.heap.size w).alloc (Nat.le_refl _) (.cells #[.int .i64 x, .int .i64 y, .bool z] 40)).trans (hb1.mono (by simp))
    clear hb1
    go_wp2_with fail
    refine (concatBooking_any _ a ⟨w1.heap.size, 0, none⟩ ls [(x, y, z)] m 1 cap 1 _ Hl.out rfl hm (by omega) (((hr.below hb (Nat.le_refl _)).alloc _).alloc _) (by rw [flB_one1]; exact (rd_new3 w1 _ _ _ _).alloc _) (by simp) (by simp) (by simp)).mono ?_
    rintro e w3 ⟨A3, c3, rfl, ho3, hb3⟩
    have hbo := ((hb.alloc hb.size (.cells #[.int .i64 x, .int .i64 y, .bool z] 40)).alloc (Nat.le_trans hb.size (by simp)) _).trans (hb3.mono (Nat.le_trans hb.size (by simp; omega)))
    go_wp2_with fail
    refine (implBookingsValid_any _ _ _ _ _ _ _ Hlen.out (by omega) (Rd.of_own ho3) Hv3.out).mono ?_
    rintro e w4 ⟨rfl, hb4⟩
    have hbo4 := hbo.trans (hb4.mono hbo.size)
    go_wp2
    go_ret2
    rw [Hje.out]
  · rw [seatsBook_f Hje.out]
    exact ⟨_, _, rfl, own_base (own_empty w4 40 3) hbo4.size, hbo4.alloc hbo4.size _⟩
  · rw [seatsBook_t Hje.out, Hlen.out]
    exact ⟨_, _, rfl, own_base (own_below ho3 hb4 (Nat.le_refl _)) (Nat.le_trans hb.size (by simp; omega)), hbo4⟩
end Go.Proofs.Ytpcmkegogcffiaa

/- Walks: drawn roads and a road. -/
import Derived.Test.YtpiknklaikcilaaDrRo2
namespace Go.Proofs.Ytpiknklaikcilaa
open Go.RowKit

/-- drawn roads and a road, in a new world -/
def DrawnAdd (w : World) (e : Ending) (w' : World) : Prop :=
  ∃ (n : Nat) (rs : List (Int × Int × Int)) (b m c : Nat) (x y z : Int), e = .returned (.tuple #[.int .i64 n, .slice (some ⟨b, 0, none⟩) m c, .agg #[.int .i64 x, .int .i64 y, .int .i64 z]]) ∧ 2 ≤ n ∧ n ≤ 6 ∧ rs.length = m ∧ m ≤ 10 ∧ (-1 ≤ x ∧ x ≤ 6) ∧ (-1 ≤ y ∧ y ≤ 6) ∧ (1 ≤ z ∧ z ≤ 20) ∧ w'.ownsRow w.heap.size 50 3 (.slice (some ⟨b, 0, none⟩) m c) m (fl3 rs) ∧ Below w.heap.size w w'
set_option maxRecDepth 100000 in
set_option maxHeartbeats 1000000 in
theorem DrawRoadsAdd_any (A : Option Addr) (xs : List Int) (n c : Nat) (w : World) (hl : xs.length = n) (hn : n ≤ 1048576) (hc : n ≤ c) (hx : Bytes xs) (hr : Rd w A (flU xs)) :
    Calls Try.prog 42 #[.slice A n c] w (DrawnAdd w) := by
  have hb0 := (Below.refl w.heap.size w).alloc (Nat.le_refl _) (.cells #[.int .i64 0, .int .i64 0, .int .i64 0] 50)
  go_enter Try.func42, Try.ntmps42
  go_wp2_with fail
  refine (l6Open_any _ xs _ _ _ hl hn hc hx (hr.alloc _)).mono ?_
  rintro e w1 ⟨g, rfl, hg, hr1, hb1⟩
  have b1 := hb0.trans (hb1.mono hb0.size)
  have hg' : w.heap.size ≤ g := Nat.le_trans (by simp) hg
  have hgb : (w.alloc (.cells #[.int .i64 0, .int .i64 0, .int .i64 0] 50)).heap.size ≤ g := hg
  have hco := fun (o : Nat) (v : Value) (h : (w.alloc (.cells #[.int .i64 0, .int .i64 0, .int .i64 0] 50)).cell? ⟨w.heap.size, o, none⟩ = some v) => (hb1.cell (p := ⟨w.heap.size, o, none⟩) (by simp)).trans h
  have e0 := hco 0 (.int .i64 0) (by simp)
  have e1 := hco 1 (.int .i64 0) (by simp)
  have e2 := hco 2 (.int .i64 0) (by simp)
  have hfo := fun (o : Nat) => (hb1.frozen (p := ⟨w.heap.size, o, none⟩) (by simp)).trans (show (w.alloc (.cells #[.int .i64 0, .int .i64 0, .int .i64 0] 50)).frozen? ⟨w.heap.size, o, none⟩ = false by simp)
  have Hfo := hideIt hfo
  clear hco hfo
  go_wp2_with fail
  refine (l91Roads_any g 0 _ (by omega) hr1).mono ?_
  rintro e w2 ⟨nn, rs, b, m, c2, rfl, n2, n6, hl2, hm2, hin, ho2, hg2, hr2⟩
  have b2 := below_pick b1 hg2 hg' b1.size
  go_wp2_with fail
  refine (l91Town_any g _ nn _ (by omega) n2 n6 hr2).mono ?_
  rintro e w3 ⟨x, rfl, x0, x1, hg3, hr3⟩
  have ho3 := own_pick ho2 hr1.lt hg3
  have b3 := below_pick b2 hg3 hg' b2.size
  go_wp2_with fail
  refine (l91Town_any g _ nn _ (by omega) n2 n6 hr3).mono ?_
  rintro e w4 ⟨y, rfl, y0, y1, hg4, hr4⟩
  have ho4 := own_pick ho3 hr1.lt hg4
  have b4 := below_pick b3 hg4 hg' b3.size
  have hgA := grown_same (grown_same hg2 hg3) hg4
  have Hl2 := hideIt hl2
  clear hl2 hin ho2 ho3 b1 b2 b3 hr2 hr3 hg2 hg3 hg4 hb0
  rcases Int.lt_trichotomy x y with hlt | hlt | hlt
  · go_wp2_with fail
    refine (pick_any g _ 20 _ (by omega) (by omega) (by omega) hr4).mono ?_
    rintro e w5 ⟨v5, rfl, h50, h51, hg5, hr5⟩
    have ho5 := own_pick ho4 hr1.lt hg5
    have b5 := below_pick b4 hg5 hg' b4.size
    have hgB := grown_same hgA hg5
    have hlt1 : w.heap.size < w1.heap.size := by have := hb1.size; simp at this; omega
    have hng : some w.heap.size ≠ some g := fun h => by have := Option.some.inj h; simp at hgb; omega
    have d0 := hgB.cell e0 hng
    have d1 := hgB.cell e1 hng
    have d2 := hgB.cell e2 hng
    have hfr : ∀ o, w5.frozen? ⟨w.heap.size, o, none⟩ = false := fun o => (hgB.frozen_far ⟨w.heap.size, o, none⟩ hlt1 hng).trans (Hfo.out o)
    clear e0 e1 e2 hgA hgB hg5 hb1 hgb hng ho4 b4 hr4 hr5
    go_wp2
    refine bodyPost_ret (v := .tuple #[.int .i64 nn, .slice (some ⟨b, 0, none⟩) m c2, .agg #[.int .i64 x, .int .i64 y, .int .i64 (1 + v5)]]) (by simp [results, Try.results42, go_sem, d0, d1, d2]) rfl ?_
    have s0 := own_pick ho5 hlt1 (grown_set w5 w.heap.size 0 (.int .i64 x))
    have s1 := own_pick s0 hlt1 (grown_set _ w.heap.size 1 (.int .i64 y))
    have s2 := own_pick s1 hlt1 (grown_set _ w.heap.size 2 (.int .i64 (1 + v5)))
    exact ⟨nn, rs, b, m, c2, _, _, _, rfl, n2, n6, Hl2.out, by omega, ⟨x0, x1⟩, ⟨y0, y1⟩, by omega, own_base s2 (by omega), ((b5.setCell (p := ⟨w.heap.size, 0, none⟩) (Nat.le_refl _) _).setCell (p := ⟨w.heap.size, 1, none⟩) (Nat.le_refl _) _).setCell (p := ⟨w.heap.size, 2, none⟩) (Nat.le_refl _) _⟩
  · subst hlt
    go_wp2_with fail
    refine (pick_any g _ 20 _ (by omega) (by omega) (by omega) hr4).mono ?_
    rintro e w5 ⟨v5, rfl, h50, h51, hg5, hr5⟩
    have ho5 := own_pick ho4 hr1.lt hg5
    have b5 := below_pick b4 hg5 hg' b4.size
    have hgB := grown_same hgA hg5
    have hlt1 : w.heap.size < w1.heap.size := by have := hb1.size; simp at this; omega
    have hng : some w.heap.size ≠ some g := fun h => by have := Option.some.inj h; simp at hgb; omega
    have d0 := hgB.cell e0 hng
    have d1 := hgB.cell e1 hng
    have d2 := hgB.cell e2 hng
    have hfr : ∀ o, w5.frozen? ⟨w.heap.size, o, none⟩ = false := fun o => (hgB.frozen_far ⟨w.heap.size, o, none⟩ hlt1 hng).trans (Hfo.out o)
    clear e0 e1 e2 hgA hgB hg5 hb1 hgb hng ho4 b4 hr4 hr5
    go_wp2
    refine bodyPost_ret (v := .tuple #[.int .i64 nn, .slice (some ⟨b, 0, none⟩) m c2, .agg #[.int .i64 x, .int .i64 x, .int .i64 (1 + v5)]]) (by simp [results, Try.results42, go_sem, d0, d1, d2]) rfl ?_
    have s0 := own_pick ho5 hlt1 (grown_set w5 w.heap.size 0 (.int .i64 x))
    have s1 := own_pick s0 hlt1 (grown_set _ w.heap.size 1 (.int .i64 x))
    have s2 := own_pick s1 hlt1 (grown_set _ w.heap.size 2 (.int .i64 (1 + v5)))
    exact ⟨nn, rs, b, m, c2, _, _, _, rfl, n2, n6, Hl2.out, by omega, ⟨x0, x1⟩, ⟨x0, x1⟩, by omega, own_base s2 (by omega), ((b5.setCell (p := ⟨w.heap.size, 0, none⟩) (Nat.le_refl _) _).setCell (p := ⟨w.heap.size, 1, none⟩) (Nat.le_refl _) _).setCell (p := ⟨w.heap.size, 2, none⟩) (Nat.le_refl _) _⟩
  · go_wp2_with fail
    refine (pick_any g _ 20 _ (by omega) (by omega) (by omega) hr4).mono ?_
    rintro e w5 ⟨v5, rfl, h50, h51, hg5, hr5⟩
    have ho5 := own_pick ho4 hr1.lt hg5
    have b5 := below_pick b4 hg5 hg' b4.size
    have hgB := grown_same hgA hg5
    have hlt1 : w.heap.size < w1.heap.size := by have := hb1.size; simp at this; omega
    have hng : some w.heap.size ≠ some g := fun h => by have := Option.some.inj h; simp at hgb; omega
    have d0 := hgB.cell e0 hng
    have d1 := hgB.cell e1 hng
    have d2 := hgB.cell e2 hng
    have hfr : ∀ o, w5.frozen? ⟨w.heap.size, o, none⟩ = false := fun o => (hgB.frozen_far ⟨w.heap.size, o, none⟩ hlt1 hng).trans (Hfo.out o)
    clear e0 e1 e2 hgA hgB hg5 hb1 hgb hng ho4 b4 hr4 hr5
    go_wp2
    refine bodyPost_ret (v := .tuple #[.int .i64 nn, .slice (some ⟨b, 0, none⟩) m c2, .agg #[.int .i64 y, .int .i64 x, .int .i64 (1 + v5)]]) (by simp [results, Try.results42, go_sem, d0, d1, d2]) rfl ?_
    have s0 := own_pick ho5 hlt1 (grown_set w5 w.heap.size 0 (.int .i64 y))
    have s1 := own_pick s0 hlt1 (grown_set _ w.heap.size 1 (.int .i64 x))
    have s2 := own_pick s1 hlt1 (grown_set _ w.heap.size 2 (.int .i64 (1 + v5)))
    exact ⟨nn, rs, b, m, c2, _, _, _, rfl, n2, n6, Hl2.out, by omega, ⟨y0, y1⟩, ⟨x0, x1⟩, by omega, own_base s2 (by omega), ((b5.setCell (p := ⟨w.heap.size, 0, none⟩) (Nat.le_refl _) _).setCell (p := ⟨w.heap.size, 1, none⟩) (Nat.le_refl _) _).setCell (p := ⟨w.heap.size, 2, none⟩) (Nat.le_refl _) _⟩
end Go.Proofs.Ytpiknklaikcilaa

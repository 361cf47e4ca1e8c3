/- Walks: the drawn roads in parts. -/
import Derived.Test.YtfnpkbfgemcbaaaDraw
import Derived.Test.YtfnpkbfgemcbaaaPa9
namespace Go.Proofs.Ytfnpkbfgemcbaaa
open Go.RowKit

/-- a drawn list of two-field records, of the call's own -/
def DrawnP (w : World) (g K : Nat) : Ending → World → Prop := fun e w' =>
  ∃ (ps : List (Int × Int)) (a : Addr) (n c : Nat), e = .returned (.slice (some a) n c) ∧ ps.length = n ∧ n ≤ 64 ∧ w'.ownsRow w.heap.size 38 2 (.slice (some a) n c) n (fl2 ps) ∧ w.grownBy w' (some g) ∧ Rdr w' g (K + 64)
theorem DrawnP.mk {w w' : World} {g K K' n c : Nat} {A : Addr} {ps : List (Int × Int)} (hl : ps.length = n) (hn : n ≤ 64) (ho : w'.ownsRow w.heap.size 38 2 (.slice (some A) n c) n (fl2 ps)) (hg : w.grownBy w' (some g)) (hr : Rdr w' g K') (hk : K' ≤ K + 64) :
    DrawnP w g K (.returned (.slice (some A) n c)) w' := ⟨ps, A, n, c, rfl, hl, hn, ho, hg, hr.mono hk⟩
/-- behind a store into a list's own block -/
theorem DrawnP.set {w w' : World} {g K K' n c b i : Nat} {v : Value} {ps : List (Int × Int)} (hgl : g < w.heap.size) (hb : w.heap.size ≤ b) (hl : ps.length = n) (hn : n ≤ 64) (ho : (w'.setCell ⟨b, i, none⟩ v).ownsRow w.heap.size 38 2 (.slice (some ⟨b, 0, none⟩) n c) n (fl2 ps)) (hg : w.grownBy w' (some g)) (hr : Rdr w' g K') (hk : K' ≤ K + 64) :
    DrawnP w g K (.returned (.slice (some ⟨b, 0, none⟩) n c)) (w'.setCell ⟨b, i, none⟩ v) :=
  DrawnP.mk hl hn ho (grown_new hg (grown_set w' b i v) (fun j e => by cases e; exact hb)) (hr.grown (grown_set w' b i v) (fun j e => by cases e; omega)) hk
theorem row2_storea {w : World} {base t g cap n : Nat} {xs : List (Int × Int)} (h : w.ownsRow base t 2 (.slice (some ⟨g, 0, none⟩) n cap) n (fl2 xs)) {k : Nat} (hk : k < xs.length) (a : Int) :
    (w.setCell ⟨g, k * 2, none⟩ (.int .i64 a)).ownsRow base t 2 (.slice (some ⟨g, 0, none⟩) n cap) n (fl2 (xs.set k (a, b2 xs k))) := by
  have h1 := (h.stored (k * 2) (.int .i64 a)).1
  have e1 : (fl2 xs).set (k * 2) (.int .i64 a) = fl2 (xs.set k (a, b2 xs k)) :=
    flat_set enc2 2 enc2_len xs k 0 _ _ _ (getD_some xs k (0, 0) hk) (by omega) rfl
  rw [e1] at h1
  exact h1
theorem cell_new_pick {w w' : World} {g : Nat} (hgl : g < w.heap.size) (cs : Array Value) (t : TypeId) (hg : (w.alloc (.cells cs t)).grownBy w' (some g)) : w'.heap[w.heap.size]? = some (.cells cs t) :=
  (hg.block w.heap.size (by simp) (fun e => by have := Option.some.inj e; omega)).trans (heap_alloc_new w _)

set_option maxHeartbeats 1000000 in
theorem l92Parts_any (g K : Nat) (w : World) (hK : K ≤ 100000000) (hr : Rdr w g K) :
    Calls Try.prog 47 #[.pointer (some ⟨g, 0, none⟩)] w (DrawnP w g K) := by
  go_enter Try.func47, Try.ntmps47
  go_wp2_with fail
  refine (pick_any g K 6 _ (by omega) (by omega) (by omega) (hr.alloc _)).mono ?_
  rintro e w1 ⟨v1, rfl, h10, h11, hg1, hr1⟩
  go_wp2_with fail
  have hgl := hr.lt
  obtain ⟨i0, hi, hz0, hz1, hz2⟩ := info_parts info_Part
  have hga := grown_same (grown_alloc (grown_refl w (some g)) (.cells #[] 38)) hg1
  have hoa := own_pick (own_empty w 38 2) hgl hg1
  clear hg1
  go_loopw [3, 5] (fun o i wr => ∃ (k : Nat) (ps : List (Int × Int)), (k : Int) ≤ 1 + v1 ∧ i = .int .i64 k ∧ ps.length = k ∧ wr.ownsRow w.heap.size 38 2 o k (fl2 ps) ∧ w.grownBy wr (some g) ∧ Rdr wr g (K + 1 + 2 * k)) (fun _ i _ => (1 + v1).toNat - (intOf i).toNat)
  case atStart => exact ⟨0, [], by omega, rfl, rfl, hoa, hga, hr1⟩
  case round =>
    obtain ⟨k, ps, hk, rfl, hl, hown, hgw, hrd⟩ := hrel
    have Hl := hideIt hl
    clear hl hoa hga hr1 hr
    by_cases hlt : (k : Int) < 1 + v1
    · go_wp2_with (first | (go_at_call 46; have hr2' := hr2; clear hr2; refine (pick_any g (K + 1 + 2 * k + 1) 9 w2 (by omega) (by omega) (by omega) hr2').mono ?_; rintro e w3 ⟨v3, rfl, h30, h31, hg3, hr3⟩; have hown3 := own_pick (own_pick hown hgl hg2) hgl hg3; have hgw3 := grown_same (grown_same hgw hg2) hg3) | (at_builtin; refine wpList_append_own _ rfl (.tmp 15) (.tmp 22) 24 rfl w.heap.size 38 i0 _ 2 16 Try.underlying24 hi hz0 hz1 hz2 rfl (by decide) _ _ _ rfl (hown3.alloc _) ⟨w3.heap.size, 0, none⟩ 1 1 [.int .i64 v2, .int .i64 (1 + v3)] rfl rfl (cell_two_new _ _ _ _) (by simp [Value.oneCell']) (by unfold maxLen; omega) (by omega) (by have := hgw3.size; simp; omega) ?_; intro v' w4 hown4 hgrow4 hnn; clear hnn) | (go_at_call 46; have hrd' := hrd; clear hrd; refine (pick_any g (K + 1 + 2 * k) 4 wr (by omega) (by omega) (by omega) hrd').mono ?_; rintro e w2 ⟨v2, rfl, h20, h21, hg2, hr2⟩))
      go_roundw
      case rel =>
        refine ⟨k + 1, ps ++ [(v2, 1 + v3)], by omega, by go_num, by rw [List.length_append, Hl.out]; rfl, by rw [fl2_snoc]; exact hown4, ?_, ?_⟩
        · exact grown_new (grown_alloc hgw3 _) hgrow4 (fun j hj => (hown3.lt j hj).1)
        · exact ((hr3.alloc _).grown hgrow4 (fun j hj => Nat.lt_of_lt_of_le hgl (hown3.lt j hj).1)).mono (by omega)
      case measure => simp [intOf]; omega
    · obtain ⟨A', c', rfl⟩ := own_form hown
      obtain ⟨b, rfl, hb0, hb1⟩ := own_some hown (by omega)
      go_wp2_with fail
      refine (pick_any g (K + 1 + 2 * k) 40 wr (by omega) (by omega) (by omega) hrd).mono ?_
      rintro e w2 ⟨v2, rfl, h20, h21, hg2, hr2⟩
      have hown2 := own_pick hown hgl hg2
      have hgw2 := grown_same hgw hg2
      have hfr := fun j => hown2.frozenAt j
      clear hown hgw hg2 hrd
      by_cases c0 : v2 = 0
      · subst c0
        go_wp2_with fail
        refine (pick_any g (K + 1 + 2 * k + 1) 3 _ (by omega) (by omega) (by omega) (hr2.alloc _)).mono ?_
        rintro e w3 ⟨v3, rfl, h30, h31, hg3, hr3⟩
        have hnw := cell_new_pick (Nat.lt_of_lt_of_le hgl hgw2.size) _ _ hg3
        have n0 : w3.cell? ⟨w2.heap.size, 0, none⟩ = some (.int .i64 0) := cell_of_row w3 w2.heap.size 0 _ _ _ hnw
        have n1 : w3.cell? ⟨w2.heap.size, 1, none⟩ = some (.int .i64 100) := cell_of_row w3 w2.heap.size 1 _ _ _ hnw
        have n2 : w3.cell? ⟨w2.heap.size, 2, none⟩ = some (.int .i64 99) := cell_of_row w3 w2.heap.size 2 _ _ _ hnw
        have hown3 := own_pick (hown2.alloc (.cells #[.int .i64 0, .int .i64 100, .int .i64 99] 3)) hgl hg3
        have hgw3 := grown_same (grown_alloc hgw2 (.cells #[.int .i64 0, .int .i64 100, .int .i64 99] 3)) hg3
        have hfr3 := fun j => hown3.frozenAt j
        have hst := fun v => row2_storeb hown3 (k := 0) (by rw [Hl.out]; omega) v
        have hcl := (row2_a hown3 (k := 0) (by rw [Hl.out]; omega)).2
        simp only [Nat.zero_mul, Nat.zero_add] at hst hcl
        clear hnw
        rcases (show v3 = 0 ∨ v3 = 1 ∨ v3 = 2 by omega) with rfl | rfl | rfl
        · go_wp2_with fail
          go_ret
          exact DrawnP.set hgl hb0 (by rw [List.length_set]; exact Hl.out) (by omega) (hst _) hgw3 hr3 (by omega)
        · go_wp2_with fail
          go_ret
          exact DrawnP.set hgl hb0 (by rw [List.length_set]; exact Hl.out) (by omega) (hst _) hgw3 hr3 (by omega)
        · go_wp2_with fail
          go_ret
          exact DrawnP.set hgl hb0 (by rw [List.length_set]; exact Hl.out) (by omega) (hst _) hgw3 hr3 (by omega)
      · by_cases c1 : v2 = 1
        · subst c1
          clear c0
          go_wp2_with fail
          refine (pick_any g (K + 1 + 2 * k + 1) 2 _ (by omega) (by omega) (by omega) (hr2.alloc _)).mono ?_
          rintro e w3 ⟨v3, rfl, h30, h31, hg3, hr3⟩
          have hnw := cell_new_pick (Nat.lt_of_lt_of_le hgl hgw2.size) _ _ hg3
          have n0 : w3.cell? ⟨w2.heap.size, 0, none⟩ = some (.int .i64 (-1)) := cell_of_row w3 w2.heap.size 0 _ _ _ hnw
          have n1 : w3.cell? ⟨w2.heap.size, 1, none⟩ = some (.int .i64 6) := cell_of_row w3 w2.heap.size 1 _ _ _ hnw
          have hown3 := own_pick (hown2.alloc (.cells #[.int .i64 (-1), .int .i64 6] 3)) hgl hg3
          have hgw3 := grown_same (grown_alloc hgw2 (.cells #[.int .i64 (-1), .int .i64 6] 3)) hg3
          have hfr3 := fun j => hown3.frozenAt j
          have hst := fun v => row2_storea hown3 (k := 0) (by rw [Hl.out]; omega) v
          have hcl := (row2_a hown3 (k := 0) (by rw [Hl.out]; omega)).1
          simp only [Nat.zero_mul] at hst hcl
          clear hnw
          rcases (show v3 = 0 ∨ v3 = 1 by omega) with rfl | rfl
          · go_wp2_with fail
            go_ret
            exact DrawnP.set hgl hb0 (by rw [List.length_set]; exact Hl.out) (by omega) (hst _) hgw3 hr3 (by omega)
          · go_wp2_with fail
            go_ret
            exact DrawnP.set hgl hb0 (by rw [List.length_set]; exact Hl.out) (by omega) (hst _) hgw3 hr3 (by omega)
        · by_cases c2 : v2 = 2
          · subst c2
            clear c0 c1
            go_wp2_with fail
            go_ret
            exact DrawnP.mk (ps := []) rfl (by omega) (own_base (own_empty w2 38 2) hgw2.size) (grown_alloc hgw2 _) (hr2.alloc _) (by omega)
          · have d0 : (v2 == 0) = false := by simp [c0]
            have d1 : (v2 == 1) = false := by simp [c1]
            have d2 : (v2 == 2) = false := by simp [c2]
            clear c0 c1 c2
            go_wp2_with fail
            go_ret
            exact DrawnP.mk Hl.out (by omega) hown2 hgw2 hr2 (by omega)

/-- a drawn list, in a new world -/
def DrawnL (w : World) : Ending → World → Prop := fun e w' =>
  ∃ (ps : List (Int × Int)) (a : Addr) (n c : Nat), e = .returned (.slice (some a) n c) ∧ ps.length = n ∧ n ≤ 64 ∧ w'.ownsRow w.heap.size 38 2 (.slice (some a) n c) n (fl2 ps) ∧ Below w.heap.size w w'
theorem DrawnP.list {w w1 w2 : World} {g K : Nat} {e : Ending} (hb : Below w.heap.size w w1) (hg : w.heap.size ≤ g) (h : DrawnP w1 g K e w2) : DrawnL w e w2 := by
  obtain ⟨ps, A, n, c, rfl, hl, hn, ho, hg2, hr⟩ := h
  exact ⟨ps, A, n, c, rfl, hl, hn, own_base ho hb.size, below_pick hb hg2 hg hb.size⟩

/-- two drawn lists -/
def DrawnLL (w : World) : Ending → World → Prop := fun e w' =>
  ∃ (ps qs : List (Int × Int)) (a b : Addr) (n m c d : Nat), e = .returned (.tuple #[.slice (some a) n c, .slice (some b) m d]) ∧ ps.length = n ∧ n ≤ 64 ∧ qs.length = m ∧ m ≤ 64 ∧
    w'.ownsRow w.heap.size 38 2 (.slice (some a) n c) n (fl2 ps) ∧ w'.ownsRow w.heap.size 38 2 (.slice (some b) m d) m (fl2 qs) ∧ Below w.heap.size w w'
end Go.Proofs.Ytfnpkbfgemcbaaa

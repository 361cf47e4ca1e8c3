/- Walks: drawn runs, rests and rosters. -/
import Derived.Test.YtckjagpjljbohaaDraw2
import Derived.Test.YtckjagpjljbohaaRu8
namespace Go.Proofs.Ytckjagpjljbohaa
open Go.RowKit

/-- drawn runs -/
def DrawnU (w : World) (g K : Nat) (e : Ending) (w' : World) : Prop :=
  ∃ (rs : List (Int × Int)) (b m c : Nat), e = .returned (.slice (some ⟨b, 0, none⟩) m c) ∧ rs.length = m ∧ m ≤ 8 ∧ w'.ownsRow w.heap.size 31 2 (.slice (some ⟨b, 0, none⟩) m c) m (fl2 rs) ∧ w.grownBy w' (some g) ∧ Rdr w' g (K + 64)
theorem row2_sa {w : World} {base t g cap n : Nat} {xs : List (Int × Int)} (h : w.ownsRow base t 2 (.slice (some ⟨g, 0, none⟩) n cap) n (fl2 xs)) {k : Nat} (hk : k < xs.length) (a : Int) :
    (w.setCell ⟨g, k * 2, none⟩ (.int .i64 a)).ownsRow base t 2 (.slice (some ⟨g, 0, none⟩) n cap) n (fl2 (xs.set k (a, b2 xs k))) := by
  have h1 := (h.stored (k * 2) (.int .i64 a)).1
  have e1 : (fl2 xs).set (k * 2) (.int .i64 a) = fl2 (xs.set k (a, b2 xs k)) :=
    flat_set enc2 2 enc2_len xs k 0 _ _ _ (getD_some xs k (0, 0) hk) (by omega) rfl
  rw [e1] at h1
  exact h1
theorem DrawnU.set {w w' : World} {g K K' m c b i : Nat} {v : Value} {rs : List (Int × Int)} (hgl : g < w.heap.size) (hb : w.heap.size ≤ b) (hl : rs.length = m) (hn : m ≤ 8) (ho : (w'.setCell ⟨b, i, none⟩ v).ownsRow w.heap.size 31 2 (.slice (some ⟨b, 0, none⟩) m c) m (fl2 rs)) (hg : w.grownBy w' (some g)) (hr : Rdr w' g K') (hk : K' ≤ K + 64) :
    DrawnU w g K (.returned (.slice (some ⟨b, 0, none⟩) m c)) (w'.setCell ⟨b, i, none⟩ v) :=
  ⟨rs, b, m, c, rfl, hl, hn, ho, grown_new hg (grown_set w' b i v) (fun j e => by cases e; exact hb), (hr.grown (grown_set w' b i v) (fun j e => by cases e; omega)).mono hk⟩
theorem info_Run : (Try.prog.info? 31).map (fun i => (i.zero, i.size, i.bytes)) = some (some (.agg #[.int .i64 0, .int .i64 0]), 2, 16) := by kernel_rfl

set_option maxRecDepth 100000 in
set_option maxHeartbeats 2000000 in
theorem l91Runs_any (g K : Nat) (w : World) (hK : K ≤ 100000000) (hr : Rdr w g K) :
    Calls Try.prog 18 #[.pointer (some ⟨g, 0, none⟩)] w (DrawnU w g K) := by
  have hgl := hr.lt
  obtain ⟨i0, hi, hz0, hz1, hz2⟩ := info_parts info_Run
  go_enter Try.func18, Try.ntmps18
  go_wp2_with fail
  refine (pick_any g K 8 _ (by omega) (by omega) (by omega) (hr.alloc _)).mono ?_
  rintro e w1 ⟨v1, rfl, h10, h11, hg1, hr1⟩
  have hga := grown_same (grown_alloc (grown_refl w (some g)) (.cells #[] 31)) hg1
  have hoa := own_pick (own_empty w 31 2) hgl hg1
  go_wp2_with fail
  refine (pick_any g _ 50 _ (by omega) (by omega) (by omega) hr1).mono ?_
  rintro e w2 ⟨v2, rfl, h20, h21, hg2, hr2⟩
  have hgb := grown_same hga hg2
  have hob := own_pick hoa hgl hg2
  clear hg1 hg2 hr1 hr hga hoa
  go_wp2_with fail
  go_loopw [3, 5, 6] (fun o t i wr => ∃ (k b c : Nat) (s : Int) (rs : List (Int × Int)), (k : Int) ≤ v1 ∧ i = .int .i64 k ∧ t = .int .i64 s ∧ 0 ≤ s ∧ s ≤ 50 + 40 * k ∧ rs.length = k ∧ o = .slice (some ⟨b, 0, none⟩) k c ∧ wr.ownsRow w.heap.size 31 2 (.slice (some ⟨b, 0, none⟩) k c) k (fl2 rs) ∧ w.grownBy wr (some g) ∧ Rdr wr g (K + 2 + 3 * k)) (fun _ _ i _ => v1.toNat - (intOf i).toNat)
  case atStart => exact ⟨0, w.heap.size, 0, v2, [], by omega, rfl, rfl, h20, by omega, rfl, rfl, hob, hgb, hr2⟩
  case round =>
    obtain ⟨k, b, c, s, rs, hk, rfl, rfl, s0, s1, hl, rfl, hown, hgw, hrd⟩ := hrel
    have Hl := hideIt hl
    clear hl hob hgb hr2
    by_cases hlt : (k : Int) < v1
    · go_wp2_with fail
      refine (pick_any g _ 60 _ (by omega) (by omega) (by omega) hrd).mono ?_
      rintro e w3 ⟨v3, rfl, h30, h31, hg3, hr3⟩
      have hown3 := own_pick hown hgl hg3
      have hgw3 := grown_same hgw hg3
      have hsz := hgw3.size
      clear hrd hown hgw hg3
      go_wp2_with (first | fail | (at_builtin; refine wpList_append_own _ rfl (.tmp 17) (.tmp 25) 23 rfl w.heap.size 31 i0 _ 2 16 Try.underlying23 hi hz0 hz1 hz2 rfl (by decide) _ _ _ rfl (hown3.alloc _) ⟨w3.heap.size, 0, none⟩ 1 1 [.int .i64 s, .int .i64 (s + 1 + v3)] rfl rfl (cell_two_new _ _ _ _) (by simp [Value.oneCell']) (by unfold maxLen; omega) (by omega) (by simp; omega) ?_; intro v' w4 hown4 hgrow4 hnn; clear hnn))
      have hgw4 := grown_new (grown_alloc hgw3 _) hgrow4 (fun j hj => (hown3.lt j hj).1)
      have hr4 := (hr3.alloc _).grown hgrow4 (fun j hj => Nat.lt_of_lt_of_le hgl (hown3.lt j hj).1)
      obtain ⟨A', c', rfl⟩ := own_form hown4
      obtain ⟨b', rfl, _, _⟩ := own_some hown4 (by omega)
      have Hfl := hideIt (fl2_snoc rs (s, s + 1 + v3))
      have Hln := hideIt (show (rs ++ [(s, s + 1 + v3)]).length = k + 1 by rw [List.length_append, Hl.out]; rfl)
      rw [← Hfl.out] at hown4
      clear hgrow4 hown3 hgw3 hr3
      go_wp2_with fail
      refine (pick_any g _ 40 _ (by omega) (by omega) (by omega) hr4).mono ?_
      rintro e w5 ⟨v5, rfl, h50, h51, hg5, hr5⟩
      have hown5 := own_pick hown4 hgl hg5
      have hgw5 := grown_same hgw4 hg5
      clear hr4 hown4 hgw4 hg5
      go_wp2_with fail
      refine (pick_any g _ 2 _ (by omega) (by omega) (by omega) hr5).mono ?_
      rintro e w6 ⟨v6, rfl, h60, h61, hg6, hr6⟩
      have hown6 := own_pick hown5 hgl hg6
      have hgw6 := grown_same hgw5 hg6
      clear hr5 hown5 hgw5 hg6
      have hmul : 0 ≤ v5 * v6 ∧ v5 * v6 ≤ 39 := by
        rcases (show v6 = 0 ∨ v6 = 1 by omega) with rfl | rfl <;> omega
      obtain ⟨p0, p1⟩ := hmul
      obtain ⟨p, hp⟩ : ∃ p, v5 * v6 = p := ⟨_, rfl⟩
      rw [hp] at p0 p1
      have hw1 : IntKind.i64.wrap (v5 * v6) = p := by rw [hp]; exact IntWalk.i64_in _ (by omega)
      clear hp
      go_wp2
      go_roundw
      case rel => exact ⟨k + 1, b', c', s + p, rs ++ [(s, s + 1 + v3)], by omega, by go_num, by go_num, by omega, by omega, Hln.out, rfl, hown6, hgw6, hr6.mono (by omega)⟩
      case measure => simp [intOf]; omega
    · obtain rfl : (k : Int) = v1 := by omega
      have hb0 := (hown.lt b rfl).1
      by_cases hk0 : k = 0
      · subst hk0
        go_wp2
        go_ret
        exact ⟨rs, b, 0, c, rfl, Hl.out, by omega, hown, hgw, hrd.mono (by omega)⟩
      have hk1 : 0 < k := by omega
      have hk2 : (0 : Int) < (k : Int) := by omega
      go_wp2_with fail
      refine (pick_any g _ 40 _ (by omega) (by omega) (by omega) hrd).mono ?_
      rintro e w3 ⟨v3, rfl, h30, h31, hg3, hr3⟩
      have hown3 := own_pick hown hgl hg3
      have hgw3 := grown_same hgw hg3
      have hfr := fun j => hown3.frozenAt j
      obtain ⟨hx, hy⟩ := row2_a hown3 (k := 0) (by rw [Hl.out]; omega)
      simp only [Nat.zero_mul, Nat.zero_add] at hx hy
      clear hrd hown hgw hg3
      by_cases c0 : v3 = 0
      · subst c0
        have hst := fun v => row2_storeb hown3 (k := 0) (by rw [Hl.out]; omega) v
        simp only [Nat.zero_mul, Nat.zero_add] at hst
        clear hown3
        go_wp2
        go_ret
        exact DrawnU.set hgl hb0 (by rw [List.length_set]; exact Hl.out) (by omega) (hst _) hgw3 hr3 (by omega)
      by_cases c1 : v3 = 1
      · subst c1
        have hst := fun v => row2_sa hown3 (k := 0) (by rw [Hl.out]; omega) v
        simp only [Nat.zero_mul] at hst
        clear hown3
        go_wp2
        go_ret
        exact DrawnU.set hgl hb0 (by rw [List.length_set]; exact Hl.out) (by omega) (hst _) hgw3 hr3 (by omega)
      by_cases c2 : v3 = 2
      · subst c2
        have hgl3 := Nat.lt_of_lt_of_le hgl hgw3.size
        clear hx hy
        go_wp2_with fail
        refine (pick_any g _ 2 _ (by omega) (by omega) (by omega) (hr3.alloc _)).mono ?_
        rintro e w4 ⟨v4, rfl, h40, h41, hg4, hr4⟩
        obtain ⟨u, hu, _⟩ := pair_at 10000 10001 h40 h41
        have hcell := tab_cell hgl3 hg4 hu
        have hown4 := own_pick (hown3.alloc (.cells #[.int .i64 10000, .int .i64 10001] 3)) hgl hg4
        have hgw4 := grown_same (grown_alloc hgw3 (.cells #[.int .i64 10000, .int .i64 10001] 3)) hg4
        have hfr4 := fun j => hown4.frozenAt j
        have hst := fun v => row2_storeb hown4 (k := k - 1) (by rw [Hl.out]; omega) v
        have hold := (row2_a hown4 (k := k - 1) (by rw [Hl.out]; omega)).2
        have hkc : ((k : Int) - 1).toNat = k - 1 := by omega
        have hkw : IntKind.i64.wrap ((k : Int) - 1) = (k : Int) - 1 := IntWalk.i64_in _ (by omega)
        have hk3 : 0 ≤ (k : Int) - 1 := by omega
        have hk4 : (k : Int) - 1 < (k : Int) := by omega
        clear hu hown3 hown4 hg4
        go_wp2
        go_ret
        exact DrawnU.set hgl hb0 (by rw [List.length_set]; exact Hl.out) (by omega) (hst _) hgw4 hr4 (by omega)
      · have d0 : (v3 == 0) = false := by simp [c0]
        have d1 : (v3 == 1) = false := by simp [c1]
        have d2 : (v3 == 2) = false := by simp [c2]
        clear c0 c1 c2 hx hy
        go_wp2
        go_ret
        exact ⟨rs, b, k, c, rfl, Hl.out, by omega, hown3, hgw3, hr3.mono (by omega)⟩
end Go.Proofs.Ytckjagpjljbohaa

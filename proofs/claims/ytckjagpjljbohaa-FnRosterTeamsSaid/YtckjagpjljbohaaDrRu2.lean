/- Walks: drawn rosters. -/
import Derived.Test.YtckjagpjljbohaaDrRu
import Derived.Deep.OwnRows
import Derived.Deep.DeepCutAuto
namespace Go.Proofs.Ytckjagpjljbohaa
open Go.RowKit

set_option maxRecDepth 100000 in
set_option maxHeartbeats 1000000 in
theorem l91Rest_any (g K : Nat) (w : World) (hK : K ≤ 200000000) (hr : Rdr w g K) :
    Calls Try.prog 19 #[.pointer (some ⟨g, 0, none⟩)] w fun e w' => ∃ v : Int, e = .returned (.int .i64 v) ∧ w.grownBy w' (some g) ∧ Rdr w' g (K + 3) := by
  have hgl := hr.lt
  go_enter Try.func19, Try.ntmps19
  go_wp2_with fail
  refine (pick_any g K 20 _ (by omega) (by omega) (by omega) hr).mono ?_
  rintro e w1 ⟨v1, rfl, h10, h11, hg1, hr1⟩
  have hgl1 := Nat.lt_of_lt_of_le hgl hg1.size
  by_cases c0 : v1 = 0
  · subst c0
    go_wp2_with fail
    refine (pick_any g _ 3 _ (by omega) (by omega) (by omega) (hr1.alloc _)).mono ?_
    rintro e w2 ⟨v2, rfl, h20, h21, hg2, hr2⟩
    obtain ⟨u, hu, _⟩ := tri_at (-1) 600 601 h20 h21
    have hcell := tab_cell hgl1 hg2 hu
    have hgw := grown_same (grown_alloc hg1 (.cells #[.int .i64 (-1), .int .i64 600, .int .i64 601] 3)) hg2
    clear hu hg2 hg1
    go_wp2
    go_ret
    exact ⟨u, rfl, hgw, hr2.mono (by omega)⟩
  · have d0 : (v1 == 0) = false := by simp [c0]
    clear c0
    go_wp2_with fail
    refine (pick_any g _ 4 _ (by omega) (by omega) (by omega) hr1).mono ?_
    rintro e w2 ⟨v2, rfl, h20, h21, hg2, hr2⟩
    have hgw2 := grown_same hg1 hg2
    go_wp2_with fail
    refine (pick_any g _ 15 _ (by omega) (by omega) (by omega) hr2).mono ?_
    rintro e w3 ⟨v3, rfl, h30, h31, hg3, hr3⟩
    have hgw3 := grown_same hgw2 hg3
    obtain ⟨p, hp⟩ : ∃ p, IntKind.i64.wrap (v2 * v3) = p := ⟨_, rfl⟩
    go_wp2
    go_ret
    exact ⟨_, rfl, hgw3, hr3.mono (by omega)⟩

/-- drawn runs, a rest, a roster -/
def DrawnS (w : World) (g K : Nat) (e : Ending) (w' : World) : Prop :=
  ∃ (rs : List (Int × Int)) (b m c : Nat) (rest : Int) (ro : List Int) (b' q c' : Nat), e = .returned (.tuple #[.slice (some ⟨b, 0, none⟩) m c, .int .i64 rest, .slice (some ⟨b', 0, none⟩) q c']) ∧ rs.length = m ∧ m ≤ 8 ∧ ro.length = q ∧ q ≤ 16 ∧
    w'.ownsRow w.heap.size 31 2 (.slice (some ⟨b, 0, none⟩) m c) m (fl2 rs) ∧ w'.ownsRow w.heap.size 3 1 (.slice (some ⟨b', 0, none⟩) q c') q (fl1 ro) ∧ w.grownBy w' (some g) ∧ Rdr w' g (K + 128)
theorem own_made (w : World) (n : Nat) (hn : n ≤ maxLen) : (w.alloc (.cells (madeCells #[.int .i64 0] n) 3)).ownsRow w.heap.size 3 1 (.slice (some ⟨w.heap.size, 0, none⟩) n n) n (fl1 (List.replicate n 0)) := by
  have := World.ownsRow_lit (base := w.heap.size) (e := 3) (size := 1) w (madeCells #[.int .i64 0] n) n (Nat.le_refl _) hn (by rw [size_madeCells, Nat.mul_one])
  have e := made1 n
  rw [Nat.mul_one] at e
  rw [e] at this
  exact this
set_option maxRecDepth 100000 in
set_option maxHeartbeats 2000000 in
theorem l91Roster_any (g K : Nat) (w : World) (hK : K ≤ 100000000) (hr : Rdr w g K) :
    Calls Try.prog 9 #[.pointer (some ⟨g, 0, none⟩)] w (DrawnS w g K) := by
  have hgl := hr.lt
  obtain ⟨i0, hi, hz0, hz1, hz2⟩ := info_parts info_intR
  go_enter Try.func9, Try.ntmps9
  go_wp2_with fail
  refine (l91Runs_any g K _ (by omega) hr).mono ?_
  rintro e w1 ⟨rs, b, m, c, rfl, hl, m8, ho1, hg1, hr1⟩
  have Hl := hideIt hl
  clear hl
  go_wp2_with fail
  refine (l91Rest_any g _ _ (by omega) hr1).mono ?_
  rintro e w2 ⟨rest, rfl, hg2, hr2⟩
  have hgw2 := grown_same hg1 hg2
  have ho2 := own_pick ho1 hgl hg2
  clear ho1 hg1 hg2 hr1 hr
  go_wp2_with fail
  refine (specRosterMake_any _ _ _ _ _ _ Hl.out (by omega) (Rd.of_own ho2)).mono ?_
  rintro e w3 ⟨ro, b3, q, c3, rfl, hq, hqm, ho3, hb3⟩
  have Hq := hideIt hq
  have hgw3 := grown_bel hgw2 hb3
  have hr3 := hr2.bel hb3
  have ho23 := own_below ho2 hb3 (Nat.le_refl _)
  have ho33 := own_base ho3 hgw2.size
  clear hq ho2 ho3 hb3 hgw2 hr2
  cases hok : runsRest rs rest
  · have hmk := run_make_row' (P := Try.prog) 24 3 (.int .i64 0) 8 Try.underlying24 info_intR rfl .i64 .i64 m (by omega) (by omega)
    clear hok
    go_wp2
    go_region
    all_goals
      go_wp2
      refine bodyPost_ret (v := .tuple #[.slice (some ⟨b, 0, none⟩) m c, .int .i64 rest, .slice (some ⟨w3.heap.size, 0, none⟩) m m]) (by simp [results, Try.results9, go_sem]) rfl ?_
      exact ⟨rs, b, m, c, rest, List.replicate m 0, w3.heap.size, m, m, rfl, Hl.out, m8, by simp, by omega, own_drewB (ho23.alloc _), own_drewB (own_base (own_made w3 m (by unfold maxLen; omega)) hgw3.size), grown_drew (grown_alloc hgw3 _), (hr3.alloc _).mono (by omega)⟩
  clear hok
  have hgl3 := Nat.lt_of_lt_of_le hgl hgw3.size
  have hnews := ((Rd.of_own ho33).alloc (.cells #[] 3)).news
  have Hl1 := hideIt (show (fl1 ro).length = q * 1 by rw [fl1_len, Hq.out, Nat.mul_one])
  by_cases hq0 : q = 0
  · subst hq0
    go_wp2_with fail
    refine (pick_any g _ 16 _ (by omega) (by omega) (by omega) hr3).mono ?_
    rintro e w4 ⟨v4, rfl, h40, h41, hg4, hr4⟩
    have hgw4 := grown_same hgw3 hg4
    have ho24 := own_pick ho23 hgl hg4
    have ho34 := own_pick ho33 hgl hg4
    have hnews4 := ((Rd.of_own ho34).alloc (.cells #[] 3)).news
    have hs4 := hgw4.size
    clear hg4 hgw3 hr3 ho23 ho33 hnews
    by_cases c0 : v4 = 0
    · subst c0
      go_wp2_with (first | (at_builtin; refine wpList_append_own _ rfl (.tmp 54) (.tmp 55) 24 rfl w4.heap.size 3 i0 _ 1 8 Try.underlying24 hi hz0 hz1 hz2 rfl (by decide) _ _ _ rfl (own_empty w4 3 1) ⟨b3, 0, none⟩ 0 c3 (fl1 ro) rfl Hl1.out hnews4 (fl1_one ro) (by unfold maxLen; omega) (by omega) (by simp) ?_; intro v5 w5 hown5 hgrow5 hnn; clear hnn) | (at_builtin; refine wpList_append_own _ rfl (.tmp 56) (.tmp 57) 24 rfl w4.heap.size 3 i0 _ 1 8 Try.underlying24 hi hz0 hz1 hz2 rfl (by decide) _ _ _ rfl (hown5.alloc _) ⟨w5.heap.size, 0, none⟩ 1 1 [.int .i64 0] rfl rfl (cell_one_new _ _ _) (by simp [Value.oneCell']) (by unfold maxLen; omega) (by omega) (by have := hgrow5.size; simp at this ⊢; omega) ?_; intro v6 w6 hown6 hgrow6 hnn; clear hnn))
      obtain ⟨A', c', rfl⟩ := own_form hown6
      obtain ⟨b', rfl, _, _⟩ := own_some hown6 (by omega)
      have Hln := hideIt (show (ro ++ [0]).length = 1 by rw [List.length_append, Hq.out]; rfl)
      have Hfl := hideIt (fl1_snoc ro 0)
      have g5 := grown_new (grown_alloc hgw4 _) hgrow5 (fun j hj => by cases hj; exact hs4)
      have g6 := grown_new (grown_alloc g5 _) hgrow6 (fun j hj => Nat.le_trans hs4 (hown5.lt j hj).1)
      have r5 := (hr4.alloc _).grown hgrow5 (fun j hj => by cases hj; exact Nat.lt_of_lt_of_le hgl hs4)
      have r6 := (r5.alloc _).grown hgrow6 (fun j hj => Nat.lt_of_lt_of_le hgl (Nat.le_trans hs4 (hown5.lt j hj).1))
      have o5 := (ho24.alloc _).kept hgrow5 (.inr (fun e => by have := (ho24.lt b rfl).2; have e2 : b = w4.heap.size := Option.some.inj e; omega))
      have o6 := (o5.alloc _).kept hgrow6 (.inr (fun e => by have := (ho24.lt b rfl).2; have := (hown5.lt b e.symm).1; omega))
      go_wp2
      refine bodyPost_ret (v := .tuple #[.slice (some ⟨b, 0, none⟩) m c, .int .i64 rest, .slice (some ⟨b', 0, none⟩) (0 + 0 + 1) c']) (by simp [results, Try.results9, go_sem]) rfl ?_
      exact ⟨rs, b, m, c, rest, ro ++ [0], b', 1, c', rfl, Hl.out, m8, Hln.out, by omega, o6, own_base (by rw [Hfl.out]; exact hown6) hs4, g6, r6.mono (by omega)⟩
    · have d0 : (v4 == 0) = false := by simp [c0]
      clear c0
      go_wp2
      refine bodyPost_ret (v := .tuple #[.slice (some ⟨b, 0, none⟩) m c, .int .i64 rest, .slice (some ⟨b3, 0, none⟩) 0 c3]) (by simp [results, Try.results9, go_sem]) rfl ?_
      exact ⟨rs, b, m, c, rest, ro, b3, 0, c3, rfl, Hl.out, m8, Hq.out, by omega, ho24, ho34, hgw4, hr4.mono (by omega)⟩
  have hqp : 0 < q := by omega
  have hqp2 : (0 : Int) < (q : Int) := by omega
  clear hq0
  go_wp2_with fail
  refine (pick_any g _ 2 _ (by omega) (by omega) (by omega) hr3).mono ?_
  rintro e w4 ⟨v4, rfl, h40, h41, hg4, hr4⟩
  have hgw4 := grown_same hgw3 hg4
  have ho24 := own_pick ho23 hgl hg4
  have ho34 := own_pick ho33 hgl hg4
  have hnews4 := ((Rd.of_own ho34).alloc (.cells #[] 3)).news
  have hs4 := hgw4.size
  clear hg4 hgw3 hr3 ho23 ho33 hnews
  by_cases c0 : v4 = 0
  · subst c0
    go_wp2_with (first | fail | (at_builtin; refine wpList_append_own _ rfl (.tmp 35) (.tmp 36) 24 rfl w4.heap.size 3 i0 _ 1 8 Try.underlying24 hi hz0 hz1 hz2 rfl (by decide) _ _ _ rfl (own_empty w4 3 1) ⟨b3, 0, none⟩ q c3 (fl1 ro) rfl Hl1.out hnews4 (fl1_one ro) (by unfold maxLen; omega) (by omega) (by simp) ?_; intro v5 w5 hown5 hgrow5 hnn; clear hnn; rw [Nat.zero_add, List.nil_append] at hown5; obtain ⟨A', c', rfl⟩ := own_form hown5; obtain ⟨b', rfl, hb'0, hb'1⟩ := own_some hown5 (by omega)))
    have g5 := grown_new (grown_alloc hgw4 _) hgrow5 (fun j hj => by cases hj; exact hs4)
    have r5 := (hr4.alloc _).grown hgrow5 (fun j hj => by cases hj; exact Nat.lt_of_lt_of_le hgl hs4)
    have o5 := (ho24.alloc _).kept hgrow5 (.inr (fun e => by have := (ho24.lt b rfl).2; have e2 : b = w4.heap.size := Option.some.inj e; omega))
    have hb24 := (ho24.lt b rfl).2
    have hgl4 := Nat.lt_of_lt_of_le hgl hs4
    clear hgrow5 hnews4
    go_wp2_with fail
    refine (pick_any g _ q _ (by omega) (by omega) (by omega) r5).mono ?_
    rintro e w6 ⟨v6, rfl, h60, h61, hg6, hr6⟩
    have g6 := grown_same g5 hg6
    have ho26 := own_pick o5 hgl hg6
    have ho56 := own_pick hown5 hgl4 hg6
    clear hg6 g5 o5 hown5 r5
    go_wp2_with fail
    refine (pick_any g _ 12 _ (by omega) (by omega) (by omega) hr6).mono ?_
    rintro e w7 ⟨v7, rfl, h70, h71, hg7, hr7⟩
    have g7 := grown_same g6 hg7
    have ho27 := own_pick ho26 hgl hg7
    have ho57 := own_pick ho56 hgl4 hg7
    obtain ⟨x, rfl⟩ := Int.eq_ofNat_of_zero_le h60
    have hxl : x < ro.length := by rw [Hq.out]; omega
    have hcell := row1_a ho57 hxl
    have hfr := fun j => ho57.frozenAt j
    have hst := row1_store ho57 hxl v7
    have ho28 := ho27.kept (grown_set w7 b' x (.int .i64 v7)) (.inr (fun e => by have e2 : b = b' := Option.some.inj e; omega))
    have g8 := grown_new g7 (grown_set w7 b' x (.int .i64 v7)) (fun j e => by cases e; omega)
    have r8 := hr7.grown (grown_set w7 b' x (.int .i64 v7)) (fun j e => by cases e; omega)
    have Hln := hideIt (show (ro.set x v7).length = q by rw [List.length_set]; exact Hq.out)
    clear hg7 ho27 ho57 g7 hr7 ho26 ho56 g6 hr6 hxl
    go_wp2
    refine bodyPost_ret (v := .tuple #[.slice (some ⟨b, 0, none⟩) m c, .int .i64 rest, .slice (some ⟨b', 0, none⟩) q c']) (by simp [results, Try.results9, go_sem]) rfl ?_
    exact ⟨rs, b, m, c, rest, ro.set x v7, b', q, c', rfl, Hl.out, m8, Hln.out, by omega, ho28, own_base hst hs4, g8, r8.mono (by omega)⟩
  have d0 : (v4 == 0) = false := by simp [c0]
  clear c0 hnews4
  go_wp2_with fail
  refine (pick_any g _ 16 _ (by omega) (by omega) (by omega) hr4).mono ?_
  rintro e w5 ⟨v5, rfl, h50, h51, hg5, hr5⟩
  have hgw5 := grown_same hgw4 hg5
  have ho25 := own_pick ho24 hgl hg5
  have ho35 := own_pick ho34 hgl hg5
  have hnews5 := ((Rd.of_own ho35).alloc (.cells #[] 3)).news
  have hs5 := hgw5.size
  clear hg5 hgw4 hr4 ho24 ho34 hs4
  by_cases c1 : v5 = 0
  · subst c1
    go_wp2_with (first | (at_builtin; refine wpList_append_own _ rfl (.tmp 54) (.tmp 55) 24 rfl w5.heap.size 3 i0 _ 1 8 Try.underlying24 hi hz0 hz1 hz2 rfl (by decide) _ _ _ rfl (own_empty w5 3 1) ⟨b3, 0, none⟩ q c3 (fl1 ro) rfl Hl1.out hnews5 (fl1_one ro) (by unfold maxLen; omega) (by omega) (by simp) ?_; intro v6 w6 hown6 hgrow6 hnn; clear hnn) | (at_builtin; refine wpList_append_own _ rfl (.tmp 56) (.tmp 57) 24 rfl w5.heap.size 3 i0 _ 1 8 Try.underlying24 hi hz0 hz1 hz2 rfl (by decide) _ _ _ rfl (hown6.alloc _) ⟨w6.heap.size, 0, none⟩ 1 1 [.int .i64 0] rfl rfl (cell_one_new _ _ _) (by simp [Value.oneCell']) (by unfold maxLen; omega) (by omega) (by have := hgrow6.size; simp at this ⊢; omega) ?_; intro v7 w7 hown7 hgrow7 hnn; clear hnn))
    obtain ⟨A', c', rfl⟩ := own_form hown7
    obtain ⟨b', rfl, _, _⟩ := own_some hown7 (by omega)
    have Hln := hideIt (show (ro ++ [0]).length = q + 1 by rw [List.length_append, Hq.out]; rfl)
    have Hfl := hideIt (fl1_snoc ro 0)
    have g6 := grown_new (grown_alloc hgw5 _) hgrow6 (fun j hj => by cases hj; exact hs5)
    have g7 := grown_new (grown_alloc g6 _) hgrow7 (fun j hj => Nat.le_trans hs5 (hown6.lt j hj).1)
    have r6 := (hr5.alloc _).grown hgrow6 (fun j hj => by cases hj; exact Nat.lt_of_lt_of_le hgl hs5)
    have r7 := (r6.alloc _).grown hgrow7 (fun j hj => Nat.lt_of_lt_of_le hgl (Nat.le_trans hs5 (hown6.lt j hj).1))
    have o6 := (ho25.alloc _).kept hgrow6 (.inr (fun e => by have := (ho25.lt b rfl).2; have e2 : b = w5.heap.size := Option.some.inj e; omega))
    have o7 := (o6.alloc _).kept hgrow7 (.inr (fun e => by have := (ho25.lt b rfl).2; have := (hown6.lt b e.symm).1; omega))
    rw [Nat.zero_add, List.nil_append] at hown7
    go_wp2
    refine bodyPost_ret (v := .tuple #[.slice (some ⟨b, 0, none⟩) m c, .int .i64 rest, .slice (some ⟨b', 0, none⟩) (q + 1) c']) (by simp [results, Try.results9, go_sem]) rfl ?_
    exact ⟨rs, b, m, c, rest, ro ++ [0], b', q + 1, c', rfl, Hl.out, m8, Hln.out, by omega, o7, own_base (by rw [Hfl.out]; exact hown7) hs5, g7, r7.mono (by omega)⟩
  · have d1 : (v5 == 0) = false := by simp [c1]
    clear c1
    go_wp2
    refine bodyPost_ret (v := .tuple #[.slice (some ⟨b, 0, none⟩) m c, .int .i64 rest, .slice (some ⟨b3, 0, none⟩) q c3]) (by simp [results, Try.results9, go_sem]) rfl ?_
    exact ⟨rs, b, m, c, rest, ro, b3, q, c3, rfl, Hl.out, m8, Hq.out, by omega, ho25, ho35, hgw5, hr5.mono (by omega)⟩
end Go.Proofs.Ytckjagpjljbohaa

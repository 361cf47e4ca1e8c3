/- Walks: the drawing of FnTakings. -/
import Derived.Test.YtpcmkegogcffiaaDrSt2
import Derived.Test.YtpcmkegogcffiaaSt6
namespace Go.Proofs.Ytpcmkegogcffiaa
open Go.RowKit

theorem Rd.drop1 {w : World} {gm : Nat} {mi : List Int} (h : Rd w (some ⟨gm, 0, none⟩) (fl1 mi)) : Rd w (some ⟨gm, 1, none⟩) (fl1 (mi.drop 1)) := by
  intro hne
  cases mi with
  | nil => exact absurd rfl hne
  | cons x r =>
    obtain ⟨b, off, hb, hlt, hc⟩ := h (by simp [fl1, enc1])
    cases hb
    exact ⟨gm, 1, rfl, hlt, fun i u hu => by have := hc (i + 1) u (by simpa [fl1, enc1] using hu); rwa [show 1 + i = 0 + (i + 1) by omega]⟩
/-- a drawn number, bookings, miles and two fares, in a new world -/
def DrawnT (w : World) (e : Ending) (w' : World) : Prop :=
  ∃ (n : Nat) (ls : List (Int × Int × Bool)) (b m c : Nat) (B : Option Addr) (mi : List Int) (q cq : Nat) (x y : Int), e = .returned (.tuple #[.int .i64 n, .slice (some ⟨b, 0, none⟩) m c, .slice B q cq, .int .i64 x, .int .i64 y]) ∧ 1 ≤ n ∧ n ≤ 6 ∧ ls.length = m ∧ m ≤ 16 ∧ w'.ownsRow w.heap.size 40 3 (.slice (some ⟨b, 0, none⟩) m c) m (flB ls) ∧ mi.length = q ∧ q ≤ 6 ∧ Rd w' B (fl1 mi) ∧ -1000 ≤ x ∧ x ≤ 1000 ∧ -1000 ≤ y ∧ y ≤ 1000 ∧ Below w.heap.size w w'

set_option maxRecDepth 100000 in
set_option maxHeartbeats 4000000 in
theorem DrawSeatsTakings_any (A : Option Addr) (xs : List Int) (n c : Nat) (w : World) (hl : xs.length = n) (hn : n ≤ 1048576) (hc : n ≤ c) (hx : Bytes xs) (hr : Rd w A (flU xs)) :
    Calls Try.prog 19 #[.slice A n c] w (DrawnT w) := by
  obtain ⟨i0, hi, hz0, hz1, hz2⟩ := info_parts info_int
  go_enter Try.func19, Try.ntmps19
  go_wp2_with fail
  refine (l6Open_any _ xs _ _ _ hl hn hc hx hr).mono ?_
  rintro e w1 ⟨g, rfl, hg, hr1, hb1⟩
  go_wp2_with fail
  refine (l92Bookings_any g 0 _ (by omega) hr1).mono ?_
  rintro e w2 ⟨nn, ls, b, m, c2, rfl, n1, n6, hl2, hm2, ho2, hg2, hr2⟩
  have hgl := hr1.lt
  have hgl2 := hr2.lt
  have hsz1 := hb1.size
  have hsz2 := hg2.size
  have b2 := below_pick hb1 hg2 hg hsz1
  have Hl2 := hideIt hl2
  clear hr hr1 hl2
  go_wp2
  go_loopw [10, 11] (fun o i wr => ∃ (k : Nat) (mi : List Int), k ≤ nn ∧ i = .int .i64 k ∧ mi.length = k ∧ wr.ownsRow w2.heap.size 3 1 o k (fl1 mi) ∧ w2.grownBy wr (some g) ∧ Rdr wr g (64 + k)) (fun _ i _ => nn - (intOf i).toNat)
  case atStart => exact ⟨0, [], by omega, rfl, rfl, own_empty w2 3 1, grown_alloc (grown_refl w2 (some g)) _, (hr2.alloc _).mono (by omega)⟩
  case round =>
    clear hr2
    obtain ⟨k, mi, hk, rfl, hmi, hown, hgw, hrd⟩ := hrel
    by_cases hlt : k < nn
    · go_wp2_with fail
      refine (pick_any g _ 20 _ (by omega) (by omega) (by omega) hrd).mono ?_
      rintro e w3 ⟨v3, rfl, h30, h31, hg3, hr3⟩
      have hown3 := own_pick hown hgl2 hg3
      have hgw3 := grown_same hgw hg3
      clear hrd hown hgw hg3
      have hz3 := hgw3.size
      have hfl : fl1 (mi ++ [1 + v3]) = fl1 mi ++ [.int .i64 (1 + v3)] := by simp [fl1, enc1]
      have Hm := hideIt (show (mi ++ [1 + v3]).length = k + 1 by rw [List.length_append, hmi]; rfl)
      go_wp2_with (at_builtin; refine wpList_append_own _ rfl (.tmp 25) (.tmp 29) 26 rfl w2.heap.size 3 i0 _ 1 8 Try.underlying26 hi hz0 hz1 hz2 rfl (by decide) _ _ _ rfl (hown3.alloc _) ⟨_, 0, none⟩ 1 1 [.int .i64 (1 + v3)] rfl rfl (cell_one_new _ _ _) (by simp [Value.oneCell']) (by unfold maxLen; omega) (by omega) ((by simp; omega)) ?_; intro v' wn hown' hgrow hnn; clear hnn)
      go_roundw
      case rel => exact ⟨k + 1, mi ++ [1 + v3], by omega, by go_num, Hm.out, by rw [hfl]; exact hown', grown_new (grown_alloc hgw3 _) hgrow (fun j e => (hown3.lt j e).1), (hr3.alloc _).grown hgrow (fun j e => Nat.lt_of_lt_of_le hgl2 (hown3.lt j e).1)⟩
      case measure => simp [intOf]; omega
    · obtain rfl : k = nn := by omega
      obtain ⟨A', c', rfl⟩ := own_form hown
      obtain ⟨gm, rfl, hgm0, hgm1⟩ := own_some hown (by omega)
      go_wp2_with fail
      refine (pick_any g _ 24 _ (by omega) (by omega) (by omega) hrd).mono ?_
      rintro e w3 ⟨v3, rfl, h30, h31, hg3, hr3⟩
      have hown3 := own_pick hown hgl2 hg3
      have hgw3 := grown_same hgw hg3
      have hz3 := hgw3.size
      clear hrd hown hgw hg3
      by_cases c0 : v3 = 0
      · subst c0
        go_wp2_with fail
        refine (pick_any g _ 2 _ (by omega) (by omega) (by omega) (hr3.alloc _)).mono ?_
        rintro e w3b ⟨v3, rfl, h30, h31, hg3, hr3b⟩
        have hnw := cell_new_pick2 hr3.lt _ _ hg3
        obtain ⟨u, hval0⟩ := pair_at 0 100 h30 h31
        have hval : w3b.cell? ⟨w3.heap.size, v3.toNat, none⟩ = some (.int .i64 u) := (cell_of_row w3b w3.heap.size v3.toNat _ _ _ hnw).trans hval0
        have hownb := own_pick (hown3.alloc _) hgl2 hg3
        have hgwb := grown_same (grown_alloc hgw3 _) hg3
        have hst := row1_store hownb (k := 0) (by omega) u
        have hcl := row1_a hownb (k := 0) (by omega)
        have hfr := fun j => hownb.frozenAt j
        have hrv := hr3b.grown (grown_set w3b gm 0 (.int .i64 u)) (fun j e => by cases e; omega)
        have hgv := grown_new hgwb (grown_set w3b gm 0 (.int .i64 u)) (fun j e => by cases e; omega)
        have hsv := Rd.of_own hst
        obtain ⟨mi', hmi'⟩ : ∃ mi', mi.set 0 u = mi' := ⟨_, rfl⟩
        have Hm := hideIt (show mi'.length = k by rw [← hmi', List.length_set]; exact hmi)
        rw [hmi'] at hsv
        clear hmi hst hownb hr3b hgwb hr3 hg3 hnw hval0
        go_wp2_with fail
        refine (pick_any g _ 10 _ (by omega) (by omega) (by omega) hrv).mono ?_
        rintro e w4 ⟨v4, rfl, h40, h41, hg4, hr4⟩
        have hs4 := hsv.grown hg4 (fun a e => by cases e; simp; omega)
        have hgw4 := grown_same hgv hg4
        clear hrv hgv hsv hg4
        go_wp2_with fail
        refine (pick_any g _ 20 _ (by omega) (by omega) (by omega) hr4).mono ?_
        rintro e w5 ⟨v5, rfl, h50, h51, hg5, hr5⟩
        have hs5 := hs4.grown hg5 (fun a e => by cases e; simp; omega)
        have hgw5 := grown_same hgw4 hg5
        clear hr4 hgw4 hs4 hg5
        have hd5 : v5.tdiv 19 = v5 / 19 := Int.tdiv_eq_ediv_of_nonneg h50
        go_wp2_with fail
        refine (pick_any g _ 6 _ (by omega) (by omega) (by omega) hr5).mono ?_
        rintro e w6 ⟨v6, rfl, h60, h61, hg6, hr6⟩
        have hs6 := hs5.grown hg6 (fun a e => by cases e; simp; omega)
        have hgw6 := grown_same hgw5 hg6
        clear hr5 hgw5 hs5 hg6
        go_wp2_with fail
        refine (pick_any g _ 20 _ (by omega) (by omega) (by omega) hr6).mono ?_
        rintro e w7 ⟨v7, rfl, h70, h71, hg7, hr7⟩
        have hs7 := hs6.grown hg7 (fun a e => by cases e; simp; omega)
        have hgw7 := grown_same hgw6 hg7
        clear hr6 hgw6 hs6 hg7
        have hd7 : v7.tdiv 19 = v7 / 19 := Int.tdiv_eq_ediv_of_nonneg h70
        go_wp2
        refine bodyPost_ret (by simp [results, Try.results19, go_sem]; rfl) rfl ?_
        refine ⟨k, ls, b, m, c2, _, mi', k, _, _, _, rfl, ?_⟩
        exact ⟨n1, n6, Hl2.out, hm2, own_base (own_pick ho2 hgl hgw7) hsz1, Hm.out, by omega, hs7, by omega, by omega, by omega, by omega, below_pick b2 hgw7 hg (by omega)⟩
      · by_cases c1 : v3 = 1
        · subst c1
          have hcap := own_cap hown3
          have hlo : (1 : Int) ≤ (k : Int) := by omega
          by_cases hcc : c' = 1
          · subst hcc
            obtain rfl : k = 1 := by omega
            have hrv := hr3
            have hgv := hgw3
            have hsv : Rd w3 (some ⟨gm, 0, none⟩) (fl1 (mi.drop 1)) := by rw [List.drop_eq_nil_of_le (by omega)]; exact Rd.nil _ _
            have Hm := hideIt (show (mi.drop 1).length = 0 by rw [List.length_drop, hmi])
            clear hr3 hgw3 hown3 hmi c0
            go_wp2_with fail
            refine (pick_any g _ 10 _ (by omega) (by omega) (by omega) hrv).mono ?_
            rintro e w4 ⟨v4, rfl, h40, h41, hg4, hr4⟩
            have hs4 := hsv.grown hg4 (fun a e => by cases e; simp; omega)
            have hgw4 := grown_same hgv hg4
            clear hrv hgv hsv hg4
            go_wp2_with fail
            refine (pick_any g _ 20 _ (by omega) (by omega) (by omega) hr4).mono ?_
            rintro e w5 ⟨v5, rfl, h50, h51, hg5, hr5⟩
            have hs5 := hs4.grown hg5 (fun a e => by cases e; simp; omega)
            have hgw5 := grown_same hgw4 hg5
            clear hr4 hgw4 hs4 hg5
            have hd5 : v5.tdiv 19 = v5 / 19 := Int.tdiv_eq_ediv_of_nonneg h50
            go_wp2_with fail
            refine (pick_any g _ 6 _ (by omega) (by omega) (by omega) hr5).mono ?_
            rintro e w6 ⟨v6, rfl, h60, h61, hg6, hr6⟩
            have hs6 := hs5.grown hg6 (fun a e => by cases e; simp; omega)
            have hgw6 := grown_same hgw5 hg6
            clear hr5 hgw5 hs5 hg6
            go_wp2_with fail
            refine (pick_any g _ 20 _ (by omega) (by omega) (by omega) hr6).mono ?_
            rintro e w7 ⟨v7, rfl, h70, h71, hg7, hr7⟩
            have hs7 := hs6.grown hg7 (fun a e => by cases e; simp; omega)
            have hgw7 := grown_same hgw6 hg7
            clear hr6 hgw6 hs6 hg7
            have hd7 : v7.tdiv 19 = v7 / 19 := Int.tdiv_eq_ediv_of_nonneg h70
            go_wp2
            refine bodyPost_ret (by simp [results, Try.results19, go_sem]; rfl) rfl ?_
            refine ⟨1, ls, b, m, c2, _, mi.drop 1, 0, _, _, _, rfl, ?_⟩
            exact ⟨n1, n6, Hl2.out, hm2, own_base (own_pick ho2 hgl hgw7) hsz1, Hm.out, by omega, hs7, by omega, by omega, by omega, by omega, below_pick b2 hgw7 hg (by omega)⟩
          · have hc2 : ¬ (c' - 1 = 0) := by omega
            have hrv := hr3
            have hgv := hgw3
            have hsv := Rd.drop1 (Rd.of_own hown3)
            have Hm := hideIt (show (mi.drop 1).length = k - 1 by rw [List.length_drop, hmi])
            clear hr3 hgw3 hown3 hmi c0
            go_wp2_with fail
            refine (pick_any g _ 10 _ (by omega) (by omega) (by omega) hrv).mono ?_
            rintro e w4 ⟨v4, rfl, h40, h41, hg4, hr4⟩
            have hs4 := hsv.grown hg4 (fun a e => by cases e; simp; omega)
            have hgw4 := grown_same hgv hg4
            clear hrv hgv hsv hg4
            go_wp2_with fail
            refine (pick_any g _ 20 _ (by omega) (by omega) (by omega) hr4).mono ?_
            rintro e w5 ⟨v5, rfl, h50, h51, hg5, hr5⟩
            have hs5 := hs4.grown hg5 (fun a e => by cases e; simp; omega)
            have hgw5 := grown_same hgw4 hg5
            clear hr4 hgw4 hs4 hg5
            have hd5 : v5.tdiv 19 = v5 / 19 := Int.tdiv_eq_ediv_of_nonneg h50
            go_wp2_with fail
            refine (pick_any g _ 6 _ (by omega) (by omega) (by omega) hr5).mono ?_
            rintro e w6 ⟨v6, rfl, h60, h61, hg6, hr6⟩
            have hs6 := hs5.grown hg6 (fun a e => by cases e; simp; omega)
            have hgw6 := grown_same hgw5 hg6
            clear hr5 hgw5 hs5 hg6
            go_wp2_with fail
            refine (pick_any g _ 20 _ (by omega) (by omega) (by omega) hr6).mono ?_
            rintro e w7 ⟨v7, rfl, h70, h71, hg7, hr7⟩
            have hs7 := hs6.grown hg7 (fun a e => by cases e; simp; omega)
            have hgw7 := grown_same hgw6 hg7
            clear hr6 hgw6 hs6 hg7
            have hd7 : v7.tdiv 19 = v7 / 19 := Int.tdiv_eq_ediv_of_nonneg h70
            go_wp2
            refine bodyPost_ret (by simp [results, Try.results19, go_sem]; rfl) rfl ?_
            refine ⟨k, ls, b, m, c2, _, mi.drop 1, k - 1, _, _, _, rfl, ?_⟩
            exact ⟨n1, n6, Hl2.out, hm2, own_base (own_pick ho2 hgl hgw7) hsz1, Hm.out, by omega, hs7, by omega, by omega, by omega, by omega, below_pick b2 hgw7 hg (by omega)⟩
        · have d0 : (v3 == 0) = false := by simp [c0]
          have d1 : (v3 == 1) = false := by simp [c1]
          clear c0 c1
          have hsv := Rd.of_own hown3
          have hrv := hr3
          have hgv := hgw3
          have Hm := hideIt hmi
          clear hr3 hgw3 hown3 hmi
          go_wp2_with fail
          refine (pick_any g _ 10 _ (by omega) (by omega) (by omega) hrv).mono ?_
          rintro e w4 ⟨v4, rfl, h40, h41, hg4, hr4⟩
          have hs4 := hsv.grown hg4 (fun a e => by cases e; simp; omega)
          have hgw4 := grown_same hgv hg4
          clear hrv hgv hsv hg4
          go_wp2_with fail
          refine (pick_any g _ 20 _ (by omega) (by omega) (by omega) hr4).mono ?_
          rintro e w5 ⟨v5, rfl, h50, h51, hg5, hr5⟩
          have hs5 := hs4.grown hg5 (fun a e => by cases e; simp; omega)
          have hgw5 := grown_same hgw4 hg5
          clear hr4 hgw4 hs4 hg5
          have hd5 : v5.tdiv 19 = v5 / 19 := Int.tdiv_eq_ediv_of_nonneg h50
          go_wp2_with fail
          refine (pick_any g _ 6 _ (by omega) (by omega) (by omega) hr5).mono ?_
          rintro e w6 ⟨v6, rfl, h60, h61, hg6, hr6⟩
          have hs6 := hs5.grown hg6 (fun a e => by cases e; simp; omega)
          have hgw6 := grown_same hgw5 hg6
          clear hr5 hgw5 hs5 hg6
          go_wp2_with fail
          refine (pick_any g _ 20 _ (by omega) (by omega) (by omega) hr6).mono ?_
          rintro e w7 ⟨v7, rfl, h70, h71, hg7, hr7⟩
          have hs7 := hs6.grown hg7 (fun a e => by cases e; simp; omega)
          have hgw7 := grown_same hgw6 hg7
          clear hr6 hgw6 hs6 hg7
          have hd7 : v7.tdiv 19 = v7 / 19 := Int.tdiv_eq_ediv_of_nonneg h70
          go_wp2
          refine bodyPost_ret (by simp [results, Try.results19, go_sem]; rfl) rfl ?_
          refine ⟨k, ls, b, m, c2, _, mi, k, _, _, _, rfl, ?_⟩
          exact ⟨n1, n6, Hl2.out, hm2, own_base (own_pick ho2 hgl hgw7) hsz1, Hm.out, by omega, hs7, by omega, by omega, by omega, by omega, below_pick b2 hgw7 hg (by omega)⟩
end Go.Proofs.Ytpcmkegogcffiaa

/- Walks: drawn roads. -/
import Derived.Test.YtdnjeahbnidefaaDraw2
import Derived.Test.YtdnjeahbnidefaaRo8
namespace Go.Proofs.Ytdnjeahbnidefaa
open Go.RowKit

/-- towns of drawn roads are small -/
def RdIn (rs : List (Int × Int × Int)) : Prop := ∀ p, p ∈ rs → 0 ≤ p.1 ∧ p.1 ≤ 6 ∧ 0 ≤ p.2.1 ∧ p.2.1 ≤ 6
theorem RdIn.nil : RdIn [] := fun p h => by cases h
theorem RdIn.snoc {rs : List (Int × Int × Int)} (h : RdIn rs) {x y z : Int} (x0 : 0 ≤ x) (x1 : x ≤ 6) (y0 : 0 ≤ y) (y1 : y ≤ 6) : RdIn (rs ++ [(x, y, z)]) := fun p hp => by
  rcases List.mem_append.1 hp with h1 | h1
  · exact h p h1
  · obtain rfl := List.mem_singleton.1 h1
    exact ⟨x0, x1, y0, y1⟩
theorem RdIn.at {rs : List (Int × Int × Int)} (h : RdIn rs) {k : Nat} (hk : k < rs.length) : 0 ≤ a3 rs k ∧ a3 rs k ≤ 6 ∧ 0 ≤ b3 rs k ∧ b3 rs k ≤ 6 := by
  have e := getD_some rs k (0, 0, 0) hk
  exact h _ (List.mem_of_getElem? e)
theorem RdIn.set {rs : List (Int × Int × Int)} (h : RdIn rs) (k : Nat) {x y z : Int} (x0 : 0 ≤ x) (x1 : x ≤ 6) (y0 : 0 ≤ y) (y1 : y ≤ 6) : RdIn (rs.set k (x, y, z)) := fun p hp => by
  rcases List.mem_or_eq_of_mem_set hp with h1 | rfl
  · exact h p h1
  · exact ⟨x0, x1, y0, y1⟩
/-- drawn roads: the number of towns and the roads -/
def DrawnR (w : World) (g K : Nat) (e : Ending) (w' : World) : Prop :=
  ∃ (n : Nat) (rs : List (Int × Int × Int)) (b m c : Nat), e = .returned (.tuple #[.int .i64 n, .slice (some ⟨b, 0, none⟩) m c]) ∧ 2 ≤ n ∧ n ≤ 6 ∧ rs.length = m ∧ m ≤ 10 ∧ RdIn rs ∧ w'.ownsRow w.heap.size 32 3 (.slice (some ⟨b, 0, none⟩) m c) m (fl3 rs) ∧ w.grownBy w' (some g) ∧ Rdr w' g (K + 80)
theorem row3_sb {w : World} {base t g cap n : Nat} {xs : List (Int × Int × Int)} (h : w.ownsRow base t 3 (.slice (some ⟨g, 0, none⟩) n cap) n (fl3 xs)) {k : Nat} (hk : k < xs.length) (u : Int) :
    (w.setCell ⟨g, k * 3 + 1, none⟩ (.int .i64 u)).ownsRow base t 3 (.slice (some ⟨g, 0, none⟩) n cap) n (fl3 (xs.set k (a3 xs k, u, c3 xs k))) := by
  have h1 := (h.stored (k * 3 + 1) (.int .i64 u)).1
  have e1 : (fl3 xs).set (k * 3 + 1) (.int .i64 u) = fl3 (xs.set k (a3 xs k, u, c3 xs k)) :=
    flat_set enc3 3 enc3_len xs k 1 _ _ _ (getD_some xs k (0, 0, 0) hk) (by omega) rfl
  rw [e1] at h1
  exact h1
theorem row3_sc {w : World} {base t g cap n : Nat} {xs : List (Int × Int × Int)} (h : w.ownsRow base t 3 (.slice (some ⟨g, 0, none⟩) n cap) n (fl3 xs)) {k : Nat} (hk : k < xs.length) (u : Int) :
    (w.setCell ⟨g, k * 3 + 2, none⟩ (.int .i64 u)).ownsRow base t 3 (.slice (some ⟨g, 0, none⟩) n cap) n (fl3 (xs.set k (a3 xs k, b3 xs k, u))) := by
  have h1 := (h.stored (k * 3 + 2) (.int .i64 u)).1
  have e1 : (fl3 xs).set (k * 3 + 2) (.int .i64 u) = fl3 (xs.set k (a3 xs k, b3 xs k, u)) :=
    flat_set enc3 3 enc3_len xs k 2 _ _ _ (getD_some xs k (0, 0, 0) hk) (by omega) rfl
  rw [e1] at h1
  exact h1
theorem row3_all {w : World} {base t g cap n : Nat} {xs : List (Int × Int × Int)} (h : w.ownsRow base t 3 (.slice (some ⟨g, 0, none⟩) n cap) n (fl3 xs)) {k : Nat} (hk : k < xs.length) :
    w.cell? ⟨g, k * 3, none⟩ = some (.int .i64 (a3 xs k)) ∧ w.cell? ⟨g, k * 3 + 1, none⟩ = some (.int .i64 (b3 xs k)) ∧ w.cell? ⟨g, k * 3 + 2, none⟩ = some (.int .i64 (c3 xs k)) := by
  obtain ⟨b, off, e, _, hc⟩ := (Rd.of_own h).at3 hk
  cases e
  simpa [Nat.zero_add] using hc k hk
theorem fl3_snoc (xs : List (Int × Int × Int)) (x y z : Int) : fl3 (xs ++ [(x, y, z)]) = fl3 xs ++ [.int .i64 x, .int .i64 y, .int .i64 z] := by rw [fl3, List.flatMap_append]; rfl
theorem DrawnR.set {w w' : World} {g K K' n m c b i : Nat} {v : Value} {rs : List (Int × Int × Int)} (hgl : g < w.heap.size) (hn2 : 2 ≤ n) (hn6 : n ≤ 6) (hb : w.heap.size ≤ b) (hl : rs.length = m) (hm : m ≤ 10) (hin : RdIn rs) (ho : (w'.setCell ⟨b, i, none⟩ v).ownsRow w.heap.size 32 3 (.slice (some ⟨b, 0, none⟩) m c) m (fl3 rs)) (hg : w.grownBy w' (some g)) (hr : Rdr w' g K') (hk : K' ≤ K + 80) :
    DrawnR w g K (.returned (.tuple #[.int .i64 n, .slice (some ⟨b, 0, none⟩) m c])) (w'.setCell ⟨b, i, none⟩ v) :=
  ⟨n, rs, b, m, c, rfl, hn2, hn6, hl, hm, hin, ho, grown_new hg (grown_set w' b i v) (fun j e => by cases e; exact hb), (hr.grown (grown_set w' b i v) (fun j e => by cases e; omega)).mono hk⟩

set_option maxRecDepth 100000 in
set_option maxHeartbeats 8000000 in
theorem l91Roads_any (g K : Nat) (w : World) (hK : K ≤ 100000000) (hr : Rdr w g K) :
    Calls Try.prog 33 #[.pointer (some ⟨g, 0, none⟩)] w (DrawnR w g K) := by
  have hgl := hr.lt
  obtain ⟨i0, hi, hz0, hz1, hz2⟩ := info_parts info_RoadA
  go_enter Try.func33, Try.ntmps33
  go_wp2_with fail
  refine (pick_any g K 5 _ (by omega) (by omega) (by omega) hr).mono ?_
  rintro e w0 ⟨v0, rfl, h00, h01, hg0, hr0⟩
  obtain ⟨n, hn⟩ : ∃ n : Nat, 2 + v0 = n := ⟨(2 + v0).toNat, by omega⟩
  have hwn : IntKind.i64.wrap (2 + v0) = (n : Int) := by rw [hn]; exact IntWalk.i64_in _ (by omega)
  have hn2 : 2 ≤ n := by omega
  have hn6 : n ≤ 6 := by omega
  have hn63 : (n : Int) ≤ 6 := by omega
  have hgl0 := Nat.lt_of_lt_of_le hgl hg0.size
  go_wp2_with fail
  refine (pick_any g _ 10 _ (by omega) (by omega) (by omega) (hr0.alloc _)).mono ?_
  rintro e w1 ⟨v1, rfl, h10, h11, hg1, hr1⟩
  have hgb := grown_same (grown_alloc hg0 (.cells #[] 32)) hg1
  have hob := own_base (own_pick (own_empty w0 32 3) hgl0 hg1) hg0.size
  clear hg1 hg0 hr0 hr hn
  go_wp2_with fail
  go_loopw [5, 7] (fun o i wr => ∃ (k L b c : Nat) (rs : List (Int × Int × Int)), (k : Int) ≤ v1 ∧ L ≤ k ∧ i = .int .i64 k ∧ rs.length = L ∧ RdIn rs ∧ o = .slice (some ⟨b, 0, none⟩) L c ∧ wr.ownsRow w.heap.size 32 3 (.slice (some ⟨b, 0, none⟩) L c) L (fl3 rs) ∧ w.grownBy wr (some g) ∧ Rdr wr g (K + 2 + 6 * k)) (fun _ i _ => v1.toNat - (intOf i).toNat)
  case atStart => exact ⟨0, 0, w0.heap.size, 0, [], by omega, by omega, rfl, rfl, RdIn.nil, rfl, hob, hgb, hr1⟩
  case round =>
    obtain ⟨k, L, b, c, rs, hk, hLk, rfl, hl, hin, rfl, hown, hgw, hrd⟩ := hrel
    have Hl := hideIt hl
    have Hin : Hid (RdIn rs) := hideIt hin
    clear hl hin hob hgb hr1
    by_cases hlt : (k : Int) < v1
    · have hkw : IntKind.i64.wrap ((k : Int) + 1) = (k : Int) + 1 := IntWalk.i64_in _ (by omega)
      go_wp2_with fail
      refine (pick_any g _ n _ (by omega) (by omega) (by omega) hrd).mono ?_
      rintro e w3 ⟨v3, rfl, h30, h31, hgx, hr3⟩
      have hown3 := own_pick hown hgl hgx
      have hgw3 := grown_same hgw hgx
      clear hrd hown hgw hgx
      go_wp2_with fail
      refine (pick_any g _ n _ (by omega) (by omega) (by omega) hr3).mono ?_
      rintro e w4 ⟨v4, rfl, h40, h41, hgx, hr4⟩
      have hown4 := own_pick hown3 hgl hgx
      have hgw4 := grown_same hgw3 hgx
      clear hr3 hown3 hgw3 hgx
      by_cases hkn : (k : Int) + 1 < (n : Int)
      · go_wp2_with fail
        refine (pick_any g _ 3 _ (by omega) (by omega) (by omega) hr4).mono ?_
        rintro e w8 ⟨v8, rfl, h80, h81, hgx, hr8⟩
        have hown8 := own_pick hown4 hgl hgx
        have hgw8 := grown_same hgw4 hgx
        clear hr4 hown4 hgw4 hgx
        by_cases h8 : 0 < v8
        · go_wp2_with fail
          refine (pick_any g _ ((k : Int) + 1) _ (by omega) (by omega) (by omega) hr8).mono ?_
          rintro e w9 ⟨v9, rfl, h90, h91, hgx, hr9⟩
          have hown9 := own_pick hown8 hgl hgx
          have hgw9 := grown_same hgw8 hgx
          clear hr8 hown8 hgw8 hgx
          have hc : v9 < (k : Int) + 1 := by omega
          go_wp2_with fail
          refine (pick_any g _ 6 _ (by omega) (by omega) (by omega) hr9).mono ?_
          rintro e w50 ⟨v5, rfl, h50, h51, hgx, hr50⟩
          have hown50 := own_pick hown9 hgl hgx
          have hgw50 := grown_same hgw9 hgx
          clear hr9 hown9 hgw9 hgx
          go_wp2_with fail
          refine (pick_any g _ 3 _ (by omega) (by omega) (by omega) hr50).mono ?_
          rintro e w6 ⟨v6, rfl, h60, h61, hgx, hr6⟩
          have hown6 := own_pick hown50 hgl hgx
          have hgw6 := grown_same hgw50 hgx
          clear hr50 hown50 hgw50 hgx
          have hmul : 0 ≤ v5 * (1 + v6) ∧ v5 * (1 + v6) ≤ 15 := by
            rcases (show v6 = 0 ∨ v6 = 1 ∨ v6 = 2 by omega) with rfl | rfl | rfl <;> omega
          obtain ⟨p0, p1⟩ := hmul
          obtain ⟨p, hp⟩ : ∃ p, v5 * (1 + v6) = p := ⟨_, rfl⟩
          rw [hp] at p0 p1
          have hw1 : IntKind.i64.wrap (v5 * (1 + v6)) = p := by rw [hp]; exact IntWalk.i64_in _ (by omega)
          have hw2 : IntKind.i64.wrap (1 + p) = 1 + p := IntWalk.i64_in _ (by omega)
          have Hln := hideIt (show (rs ++ [(v9, (k : Int) + 1, 1 + p)]).length = L + 1 by rw [List.length_append, Hl.out]; rfl)
          clear hp
          cases hv : roadsValid (n : Int) (rs ++ [(v9, (k : Int) + 1, 1 + p)])
          · have Hv := hideIt hv
            clear hv
            go_wp2_with fail
            refine (specRoadsAdd_any _ _ _ _ _ _ _ _ _ Hl.out (by omega) (Rd.of_own hown6)).mono ?_
            rw [roadsAdd_f Hv.out, Hv.out]
            rintro e w7 ⟨A7, c7, rfl, ho7, hb7⟩
            have hown7 := own_below hown6 hb7 (Nat.le_refl _)
            have hgw7 := grown_bel hgw6 hb7
            have hr7 := hr6.bel hb7
            clear ho7 hb7 hown6 hgw6 hr6
            go_wp2
            go_roundw
            case rel => exact ⟨k + 1, L, b, c, rs, by omega, by omega, by go_num, Hl.out, Hin.out, rfl, hown7, hgw7, hr7.mono (by omega)⟩
            case measure => simp [intOf]; omega
          · have Hv := hideIt hv
            clear hv
            go_wp2_with fail
            refine (specRoadsAdd_any _ _ _ _ _ _ _ _ _ Hl.out (by omega) (Rd.of_own hown6)).mono ?_
            rw [roadsAdd_t Hv.out, Hv.out, Hln.out]
            rintro e w7 ⟨A7, c7, rfl, ho7, hb7⟩
            obtain ⟨b7, rfl, _, _⟩ := own_some ho7 (by omega)
            have hown7 := own_base ho7 hgw6.size
            have hgw7 := grown_bel hgw6 hb7
            have hr7 := hr6.bel hb7
            clear ho7 hb7 hown6 hgw6 hr6
            go_wp2
            go_roundw
            case rel => exact ⟨k + 1, L + 1, b7, c7, rs ++ [(v9, (k : Int) + 1, 1 + p)], by omega, by omega, by go_num, Hln.out, Hin.out.snoc (by omega) (by omega) (by omega) (by omega), rfl, hown7, hgw7, hr7.mono (by omega)⟩
            case measure => simp [intOf]; omega
        · rcases Int.lt_trichotomy v3 v4 with hc | hc | hc
          · go_wp2_with fail
            refine (pick_any g _ 6 _ (by omega) (by omega) (by omega) hr8).mono ?_
            rintro e w50 ⟨v5, rfl, h50, h51, hgx, hr50⟩
            have hown50 := own_pick hown8 hgl hgx
            have hgw50 := grown_same hgw8 hgx
            clear hr8 hown8 hgw8 hgx
            go_wp2_with fail
            refine (pick_any g _ 3 _ (by omega) (by omega) (by omega) hr50).mono ?_
            rintro e w6 ⟨v6, rfl, h60, h61, hgx, hr6⟩
            have hown6 := own_pick hown50 hgl hgx
            have hgw6 := grown_same hgw50 hgx
            clear hr50 hown50 hgw50 hgx
            have hmul : 0 ≤ v5 * (1 + v6) ∧ v5 * (1 + v6) ≤ 15 := by
              rcases (show v6 = 0 ∨ v6 = 1 ∨ v6 = 2 by omega) with rfl | rfl | rfl <;> omega
            obtain ⟨p0, p1⟩ := hmul
            obtain ⟨p, hp⟩ : ∃ p, v5 * (1 + v6) = p := ⟨_, rfl⟩
            rw [hp] at p0 p1
            have hw1 : IntKind.i64.wrap (v5 * (1 + v6)) = p := by rw [hp]; exact IntWalk.i64_in _ (by omega)
            have hw2 : IntKind.i64.wrap (1 + p) = 1 + p := IntWalk.i64_in _ (by omega)
            have Hln := hideIt (show (rs ++ [(v3, v4, 1 + p)]).length = L + 1 by rw [List.length_append, Hl.out]; rfl)
            clear hp
            cases hv : roadsValid (n : Int) (rs ++ [(v3, v4, 1 + p)])
            · have Hv := hideIt hv
              clear hv
              go_wp2_with fail
              refine (specRoadsAdd_any _ _ _ _ _ _ _ _ _ Hl.out (by omega) (Rd.of_own hown6)).mono ?_
              rw [roadsAdd_f Hv.out, Hv.out]
              rintro e w7 ⟨A7, c7, rfl, ho7, hb7⟩
              have hown7 := own_below hown6 hb7 (Nat.le_refl _)
              have hgw7 := grown_bel hgw6 hb7
              have hr7 := hr6.bel hb7
              clear ho7 hb7 hown6 hgw6 hr6
              go_wp2
              go_roundw
              case rel => exact ⟨k + 1, L, b, c, rs, by omega, by omega, by go_num, Hl.out, Hin.out, rfl, hown7, hgw7, hr7.mono (by omega)⟩
              case measure => simp [intOf]; omega
            · have Hv := hideIt hv
              clear hv
              go_wp2_with fail
              refine (specRoadsAdd_any _ _ _ _ _ _ _ _ _ Hl.out (by omega) (Rd.of_own hown6)).mono ?_
              rw [roadsAdd_t Hv.out, Hv.out, Hln.out]
              rintro e w7 ⟨A7, c7, rfl, ho7, hb7⟩
              obtain ⟨b7, rfl, _, _⟩ := own_some ho7 (by omega)
              have hown7 := own_base ho7 hgw6.size
              have hgw7 := grown_bel hgw6 hb7
              have hr7 := hr6.bel hb7
              clear ho7 hb7 hown6 hgw6 hr6
              go_wp2
              go_roundw
              case rel => exact ⟨k + 1, L + 1, b7, c7, rs ++ [(v3, v4, 1 + p)], by omega, by omega, by go_num, Hln.out, Hin.out.snoc (by omega) (by omega) (by omega) (by omega), rfl, hown7, hgw7, hr7.mono (by omega)⟩
              case measure => simp [intOf]; omega
          · subst hc
            go_wp2_with fail
            refine (pick_any g _ 6 _ (by omega) (by omega) (by omega) hr8).mono ?_
            rintro e w50 ⟨v5, rfl, h50, h51, hgx, hr50⟩
            have hown50 := own_pick hown8 hgl hgx
            have hgw50 := grown_same hgw8 hgx
            clear hr8 hown8 hgw8 hgx
            go_wp2_with fail
            refine (pick_any g _ 3 _ (by omega) (by omega) (by omega) hr50).mono ?_
            rintro e w6 ⟨v6, rfl, h60, h61, hgx, hr6⟩
            have hown6 := own_pick hown50 hgl hgx
            have hgw6 := grown_same hgw50 hgx
            clear hr50 hown50 hgw50 hgx
            have hmul : 0 ≤ v5 * (1 + v6) ∧ v5 * (1 + v6) ≤ 15 := by
              rcases (show v6 = 0 ∨ v6 = 1 ∨ v6 = 2 by omega) with rfl | rfl | rfl <;> omega
            obtain ⟨p0, p1⟩ := hmul
            obtain ⟨p, hp⟩ : ∃ p, v5 * (1 + v6) = p := ⟨_, rfl⟩
            rw [hp] at p0 p1
            have hw1 : IntKind.i64.wrap (v5 * (1 + v6)) = p := by rw [hp]; exact IntWalk.i64_in _ (by omega)
            have hw2 : IntKind.i64.wrap (1 + p) = 1 + p := IntWalk.i64_in _ (by omega)
            have Hln := hideIt (show (rs ++ [(v3, v3, 1 + p)]).length = L + 1 by rw [List.length_append, Hl.out]; rfl)
            clear hp
            cases hv : roadsValid (n : Int) (rs ++ [(v3, v3, 1 + p)])
            · have Hv := hideIt hv
              clear hv
              go_wp2_with fail
              refine (specRoadsAdd_any _ _ _ _ _ _ _ _ _ Hl.out (by omega) (Rd.of_own hown6)).mono ?_
              rw [roadsAdd_f Hv.out, Hv.out]
              rintro e w7 ⟨A7, c7, rfl, ho7, hb7⟩
              have hown7 := own_below hown6 hb7 (Nat.le_refl _)
              have hgw7 := grown_bel hgw6 hb7
              have hr7 := hr6.bel hb7
              clear ho7 hb7 hown6 hgw6 hr6
              go_wp2
              go_roundw
              case rel => exact ⟨k + 1, L, b, c, rs, by omega, by omega, by go_num, Hl.out, Hin.out, rfl, hown7, hgw7, hr7.mono (by omega)⟩
              case measure => simp [intOf]; omega
            · have Hv := hideIt hv
              clear hv
              go_wp2_with fail
              refine (specRoadsAdd_any _ _ _ _ _ _ _ _ _ Hl.out (by omega) (Rd.of_own hown6)).mono ?_
              rw [roadsAdd_t Hv.out, Hv.out, Hln.out]
              rintro e w7 ⟨A7, c7, rfl, ho7, hb7⟩
              obtain ⟨b7, rfl, _, _⟩ := own_some ho7 (by omega)
              have hown7 := own_base ho7 hgw6.size
              have hgw7 := grown_bel hgw6 hb7
              have hr7 := hr6.bel hb7
              clear ho7 hb7 hown6 hgw6 hr6
              go_wp2
              go_roundw
              case rel => exact ⟨k + 1, L + 1, b7, c7, rs ++ [(v3, v3, 1 + p)], by omega, by omega, by go_num, Hln.out, Hin.out.snoc (by omega) (by omega) (by omega) (by omega), rfl, hown7, hgw7, hr7.mono (by omega)⟩
              case measure => simp [intOf]; omega
          · go_wp2_with fail
            refine (pick_any g _ 6 _ (by omega) (by omega) (by omega) hr8).mono ?_
            rintro e w50 ⟨v5, rfl, h50, h51, hgx, hr50⟩
            have hown50 := own_pick hown8 hgl hgx
            have hgw50 := grown_same hgw8 hgx
            clear hr8 hown8 hgw8 hgx
            go_wp2_with fail
            refine (pick_any g _ 3 _ (by omega) (by omega) (by omega) hr50).mono ?_
            rintro e w6 ⟨v6, rfl, h60, h61, hgx, hr6⟩
            have hown6 := own_pick hown50 hgl hgx
            have hgw6 := grown_same hgw50 hgx
            clear hr50 hown50 hgw50 hgx
            have hmul : 0 ≤ v5 * (1 + v6) ∧ v5 * (1 + v6) ≤ 15 := by
              rcases (show v6 = 0 ∨ v6 = 1 ∨ v6 = 2 by omega) with rfl | rfl | rfl <;> omega
            obtain ⟨p0, p1⟩ := hmul
            obtain ⟨p, hp⟩ : ∃ p, v5 * (1 + v6) = p := ⟨_, rfl⟩
            rw [hp] at p0 p1
            have hw1 : IntKind.i64.wrap (v5 * (1 + v6)) = p := by rw [hp]; exact IntWalk.i64_in _ (by omega)
            have hw2 : IntKind.i64.wrap (1 + p) = 1 + p := IntWalk.i64_in _ (by omega)
            have Hln := hideIt (show (rs ++ [(v4, v3, 1 + p)]).length = L + 1 by rw [List.length_append, Hl.out]; rfl)
            clear hp
            cases hv : roadsValid (n : Int) (rs ++ [(v4, v3, 1 + p)])
            · have Hv := hideIt hv
              clear hv
              go_wp2_with fail
              refine (specRoadsAdd_any _ _ _ _ _ _ _ _ _ Hl.out (by omega) (Rd.of_own hown6)).mono ?_
              rw [roadsAdd_f Hv.out, Hv.out]
              rintro e w7 ⟨A7, c7, rfl, ho7, hb7⟩
              have hown7 := own_below hown6 hb7 (Nat.le_refl _)
              have hgw7 := grown_bel hgw6 hb7
              have hr7 := hr6.bel hb7
              clear ho7 hb7 hown6 hgw6 hr6
              go_wp2
              go_roundw
              case rel => exact ⟨k + 1, L, b, c, rs, by omega, by omega, by go_num, Hl.out, Hin.out, rfl, hown7, hgw7, hr7.mono (by omega)⟩
              case measure => simp [intOf]; omega
            · have Hv := hideIt hv
              clear hv
              go_wp2_with fail
              refine (specRoadsAdd_any _ _ _ _ _ _ _ _ _ Hl.out (by omega) (Rd.of_own hown6)).mono ?_
              rw [roadsAdd_t Hv.out, Hv.out, Hln.out]
              rintro e w7 ⟨A7, c7, rfl, ho7, hb7⟩
              obtain ⟨b7, rfl, _, _⟩ := own_some ho7 (by omega)
              have hown7 := own_base ho7 hgw6.size
              have hgw7 := grown_bel hgw6 hb7
              have hr7 := hr6.bel hb7
              clear ho7 hb7 hown6 hgw6 hr6
              go_wp2
              go_roundw
              case rel => exact ⟨k + 1, L + 1, b7, c7, rs ++ [(v4, v3, 1 + p)], by omega, by omega, by go_num, Hln.out, Hin.out.snoc (by omega) (by omega) (by omega) (by omega), rfl, hown7, hgw7, hr7.mono (by omega)⟩
              case measure => simp [intOf]; omega
      · rcases Int.lt_trichotomy v3 v4 with hc | hc | hc
        · go_wp2_with fail
          refine (pick_any g _ 6 _ (by omega) (by omega) (by omega) hr4).mono ?_
          rintro e w50 ⟨v5, rfl, h50, h51, hgx, hr50⟩
          have hown50 := own_pick hown4 hgl hgx
          have hgw50 := grown_same hgw4 hgx
          clear hr4 hown4 hgw4 hgx
          go_wp2_with fail
          refine (pick_any g _ 3 _ (by omega) (by omega) (by omega) hr50).mono ?_
          rintro e w6 ⟨v6, rfl, h60, h61, hgx, hr6⟩
          have hown6 := own_pick hown50 hgl hgx
          have hgw6 := grown_same hgw50 hgx
          clear hr50 hown50 hgw50 hgx
          have hmul : 0 ≤ v5 * (1 + v6) ∧ v5 * (1 + v6) ≤ 15 := by
            rcases (show v6 = 0 ∨ v6 = 1 ∨ v6 = 2 by omega) with rfl | rfl | rfl <;> omega
          obtain ⟨p0, p1⟩ := hmul
          obtain ⟨p, hp⟩ : ∃ p, v5 * (1 + v6) = p := ⟨_, rfl⟩
          rw [hp] at p0 p1
          have hw1 : IntKind.i64.wrap (v5 * (1 + v6)) = p := by rw [hp]; exact IntWalk.i64_in _ (by omega)
          have hw2 : IntKind.i64.wrap (1 + p) = 1 + p := IntWalk.i64_in _ (by omega)
          have Hln := hideIt (show (rs ++ [(v3, v4, 1 + p)]).length = L + 1 by rw [List.length_append, Hl.out]; rfl)
          clear hp
          cases hv : roadsValid (n : Int) (rs ++ [(v3, v4, 1 + p)])
          · have Hv := hideIt hv
            clear hv
            go_wp2_with fail
            refine (specRoadsAdd_any _ _ _ _ _ _ _ _ _ Hl.out (by omega) (Rd.of_own hown6)).mono ?_
            rw [roadsAdd_f Hv.out, Hv.out]
            rintro e w7 ⟨A7, c7, rfl, ho7, hb7⟩
            have hown7 := own_below hown6 hb7 (Nat.le_refl _)
            have hgw7 := grown_bel hgw6 hb7
            have hr7 := hr6.bel hb7
            clear ho7 hb7 hown6 hgw6 hr6
            go_wp2
            go_roundw
            case rel => exact ⟨k + 1, L, b, c, rs, by omega, by omega, by go_num, Hl.out, Hin.out, rfl, hown7, hgw7, hr7.mono (by omega)⟩
            case measure => simp [intOf]; omega
          · have Hv := hideIt hv
            clear hv
            go_wp2_with fail
            refine (specRoadsAdd_any _ _ _ _ _ _ _ _ _ Hl.out (by omega) (Rd.of_own hown6)).mono ?_
            rw [roadsAdd_t Hv.out, Hv.out, Hln.out]
            rintro e w7 ⟨A7, c7, rfl, ho7, hb7⟩
            obtain ⟨b7, rfl, _, _⟩ := own_some ho7 (by omega)
            have hown7 := own_base ho7 hgw6.size
            have hgw7 := grown_bel hgw6 hb7
            have hr7 := hr6.bel hb7
            clear ho7 hb7 hown6 hgw6 hr6
            go_wp2
            go_roundw
            case rel => exact ⟨k + 1, L + 1, b7, c7, rs ++ [(v3, v4, 1 + p)], by omega, by omega, by go_num, Hln.out, Hin.out.snoc (by omega) (by omega) (by omega) (by omega), rfl, hown7, hgw7, hr7.mono (by omega)⟩
            case measure => simp [intOf]; omega
        · subst hc
          go_wp2_with fail
          refine (pick_any g _ 6 _ (by omega) (by omega) (by omega) hr4).mono ?_
          rintro e w50 ⟨v5, rfl, h50, h51, hgx, hr50⟩
          have hown50 := own_pick hown4 hgl hgx
          have hgw50 := grown_same hgw4 hgx
          clear hr4 hown4 hgw4 hgx
          go_wp2_with fail
          refine (pick_any g _ 3 _ (by omega) (by omega) (by omega) hr50).mono ?_
          rintro e w6 ⟨v6, rfl, h60, h61, hgx, hr6⟩
          have hown6 := own_pick hown50 hgl hgx
          have hgw6 := grown_same hgw50 hgx
          clear hr50 hown50 hgw50 hgx
          have hmul : 0 ≤ v5 * (1 + v6) ∧ v5 * (1 + v6) ≤ 15 := by
            rcases (show v6 = 0 ∨ v6 = 1 ∨ v6 = 2 by omega) with rfl | rfl | rfl <;> omega
          obtain ⟨p0, p1⟩ := hmul
          obtain ⟨p, hp⟩ : ∃ p, v5 * (1 + v6) = p := ⟨_, rfl⟩
          rw [hp] at p0 p1
          have hw1 : IntKind.i64.wrap (v5 * (1 + v6)) = p := by rw [hp]; exact IntWalk.i64_in _ (by omega)
          have hw2 : IntKind.i64.wrap (1 + p) = 1 + p := IntWalk.i64_in _ (by omega)
          have Hln := hideIt (show (rs ++ [(v3, v3, 1 + p)]).length = L + 1 by rw [List.length_append, Hl.out]; rfl)
          clear hp
          cases hv : roadsValid (n : Int) (rs ++ [(v3, v3, 1 + p)])
          · have Hv := hideIt hv
            clear hv
            go_wp2_with fail
            refine (specRoadsAdd_any _ _ _ _ _ _ _ _ _ Hl.out (by omega) (Rd.of_own hown6)).mono ?_
            rw [roadsAdd_f Hv.out, Hv.out]
            rintro e w7 ⟨A7, c7, rfl, ho7, hb7⟩
            have hown7 := own_below hown6 hb7 (Nat.le_refl _)
            have hgw7 := grown_bel hgw6 hb7
            have hr7 := hr6.bel hb7
            clear ho7 hb7 hown6 hgw6 hr6
            go_wp2
            go_roundw
            case rel => exact ⟨k + 1, L, b, c, rs, by omega, by omega, by go_num, Hl.out, Hin.out, rfl, hown7, hgw7, hr7.mono (by omega)⟩
            case measure => simp [intOf]; omega
          · have Hv := hideIt hv
            clear hv
            go_wp2_with fail
            refine (specRoadsAdd_any _ _ _ _ _ _ _ _ _ Hl.out (by omega) (Rd.of_own hown6)).mono ?_
            rw [roadsAdd_t Hv.out, Hv.out, Hln.out]
            rintro e w7 ⟨A7, c7, rfl, ho7, hb7⟩
            obtain ⟨b7, rfl, _, _⟩ := own_some ho7 (by omega)
            have hown7 := own_base ho7 hgw6.size
            have hgw7 := grown_bel hgw6 hb7
            have hr7 := hr6.bel hb7
            clear ho7 hb7 hown6 hgw6 hr6
            go_wp2
            go_roundw
            case rel => exact ⟨k + 1, L + 1, b7, c7, rs ++ [(v3, v3, 1 + p)], by omega, by omega, by go_num, Hln.out, Hin.out.snoc (by omega) (by omega) (by omega) (by omega), rfl, hown7, hgw7, hr7.mono (by omega)⟩
            case measure => simp [intOf]; omega
        · go_wp2_with fail
          refine (pick_any g _ 6 _ (by omega) (by omega) (by omega) hr4).mono ?_
          rintro e w50 ⟨v5, rfl, h50, h51, hgx, hr50⟩
          have hown50 := own_pick hown4 hgl hgx
          have hgw50 := grown_same hgw4 hgx
          clear hr4 hown4 hgw4 hgx
          go_wp2_with fail
          refine (pick_any g _ 3 _ (by omega) (by omega) (by omega) hr50).mono ?_
          rintro e w6 ⟨v6, rfl, h60, h61, hgx, hr6⟩
          have hown6 := own_pick hown50 hgl hgx
          have hgw6 := grown_same hgw50 hgx
          clear hr50 hown50 hgw50 hgx
          have hmul : 0 ≤ v5 * (1 + v6) ∧ v5 * (1 + v6) ≤ 15 := by
            rcases (show v6 = 0 ∨ v6 = 1 ∨ v6 = 2 by omega) with rfl | rfl | rfl <;> omega
          obtain ⟨p0, p1⟩ := hmul
          obtain ⟨p, hp⟩ : ∃ p, v5 * (1 + v6) = p := ⟨_, rfl⟩
          rw [hp] at p0 p1
          have hw1 : IntKind.i64.wrap (v5 * (1 + v6)) = p := by rw [hp]; exact IntWalk.i64_in _ (by omega)
          have hw2 : IntKind.i64.wrap (1 + p) = 1 + p := IntWalk.i64_in _ (by omega)
          have Hln := hideIt (show (rs ++ [(v4, v3, 1 + p)]).length = L + 1 by rw [List.length_append, Hl.out]; rfl)
          clear hp
          cases hv : roadsValid (n : Int) (rs ++ [(v4, v3, 1 + p)])
          · have Hv := hideIt hv
            clear hv
            go_wp2_with fail
            refine (specRoadsAdd_any _ _ _ _ _ _ _ _ _ Hl.out (by omega) (Rd.of_own hown6)).mono ?_
            rw [roadsAdd_f Hv.out, Hv.out]
            rintro e w7 ⟨A7, c7, rfl, ho7, hb7⟩
            have hown7 := own_below hown6 hb7 (Nat.le_refl _)
            have hgw7 := grown_bel hgw6 hb7
            have hr7 := hr6.bel hb7
            clear ho7 hb7 hown6 hgw6 hr6
            go_wp2
            go_roundw
            case rel => exact ⟨k + 1, L, b, c, rs, by omega, by omega, by go_num, Hl.out, Hin.out, rfl, hown7, hgw7, hr7.mono (by omega)⟩
            case measure => simp [intOf]; omega
          · have Hv := hideIt hv
            clear hv
            go_wp2_with fail
            refine (specRoadsAdd_any _ _ _ _ _ _ _ _ _ Hl.out (by omega) (Rd.of_own hown6)).mono ?_
            rw [roadsAdd_t Hv.out, Hv.out, Hln.out]
            rintro e w7 ⟨A7, c7, rfl, ho7, hb7⟩
            obtain ⟨b7, rfl, _, _⟩ := own_some ho7 (by omega)
            have hown7 := own_base ho7 hgw6.size
            have hgw7 := grown_bel hgw6 hb7
            have hr7 := hr6.bel hb7
            clear ho7 hb7 hown6 hgw6 hr6
            go_wp2
            go_roundw
            case rel => exact ⟨k + 1, L + 1, b7, c7, rs ++ [(v4, v3, 1 + p)], by omega, by omega, by go_num, Hln.out, Hin.out.snoc (by omega) (by omega) (by omega) (by omega), rfl, hown7, hgw7, hr7.mono (by omega)⟩
            case measure => simp [intOf]; omega
    · obtain rfl : (k : Int) = v1 := by omega
      have hb0 := (hown.lt b rfl).1
      by_cases hL0 : L = 0
      · subst hL0
        go_wp2
        go_ret2
        exact ⟨n, rs, b, 0, c, rfl, hn2, hn6, Hl.out, by omega, Hin.out, hown, hgw, hrd.mono (by omega)⟩
      have hL1 : 0 < L := by omega
      have Hin0 := hideIt (Hin.out.at (k := 0) (by rw [Hl.out]; omega))
      have hL2 : (0 : Int) < (L : Int) := by omega
      go_wp2_with fail
      refine (pick_any g _ 40 _ (by omega) (by omega) (by omega) hrd).mono ?_
      rintro e w3 ⟨v3, rfl, h30, h31, hg3, hr3⟩
      have hown3 := own_pick hown hgl hg3
      have hgw3 := grown_same hgw hg3
      have hfr := fun j => hown3.frozenAt j
      clear hrd hown hgw hg3
      by_cases c0 : v3 = 0
      · subst c0
        have hgl3 := Nat.lt_of_lt_of_le hgl hgw3.size
        go_wp2_with fail
        refine (pick_any g _ 3 _ (by omega) (by omega) (by omega) (hr3.alloc _)).mono ?_
        rintro e w4 ⟨v4, rfl, h40, h41, hg4, hr4⟩
        obtain ⟨u, hu, _⟩ := tri_at 0 100 99 h40 h41
        have hcell := tab_cell hgl3 hg4 hu
        have hown4 := own_pick (hown3.alloc (.cells #[.int .i64 0, .int .i64 100, .int .i64 99] 3)) hgl hg4
        have hgw4 := grown_same (grown_alloc hgw3 (.cells #[.int .i64 0, .int .i64 100, .int .i64 99] 3)) hg4
        have hfr4 := fun j => hown4.frozenAt j
        have hst := fun v => row3_sc hown4 (k := 0) (by rw [Hl.out]; omega) v
        obtain ⟨_, _, hold⟩ := row3_all hown4 (k := 0) (by rw [Hl.out]; omega)
        simp only [Nat.zero_mul, Nat.zero_add] at hst hold
        clear hu hown3 hown4 hg4
        go_wp2
        go_ret2
        exact DrawnR.set hgl hn2 hn6 hb0 (by rw [List.length_set]; exact Hl.out) (by omega) (Hin.out.set 0 Hin0.out.1 Hin0.out.2.1 Hin0.out.2.2.1 Hin0.out.2.2.2) (hst _) hgw4 hr4 (by omega)
      by_cases c1 : v3 = 1
      · subst c1
        obtain ⟨hx, hy, hz⟩ := row3_all hown3 (k := 0) (by rw [Hl.out]; omega)
        simp only [Nat.zero_mul, Nat.zero_add] at hx hy hz
        obtain ⟨x, hxe⟩ : ∃ x, a3 rs 0 = x := ⟨_, rfl⟩
        obtain ⟨y, hye⟩ : ∃ y, b3 rs 0 = y := ⟨_, rfl⟩
        obtain ⟨z, hze⟩ : ∃ z, c3 rs 0 = z := ⟨_, rfl⟩
        rw [hxe] at hx
        rw [hye] at hy
        rw [hze] at hz
        have hsz := hgw3.size
        have hs4 := hideIt Hin0.out
        rw [hxe, hye] at hs4
        clear hxe hye hze
        go_wp2_with (at_builtin; refine wpList_append_own _ rfl (.tmp 83) (.tmp 87) 23 rfl w.heap.size 32 i0 _ 3 24 Try.underlying23 hi hz0 hz1 hz2 rfl (by decide) _ _ _ rfl (hown3.alloc _) ⟨w3.heap.size, 0, none⟩ 1 1 [.int .i64 x, .int .i64 y, .int .i64 z] rfl rfl (news_at (cs := #[.int .i64 x, .int .i64 y, .int .i64 z]) (t := 32) (heap_alloc_new w3 _)) (by simp [Value.oneCell']) (by unfold maxLen; omega) (by omega) (by simp; omega) ?_; intro v4 w4 hown4 hgrow4 hnn; clear hnn; obtain ⟨A', c', rfl⟩ := own_form hown4; obtain ⟨b', rfl, _, _⟩ := own_some hown4 (by omega))
        have hgw4 := grown_new (grown_alloc hgw3 _) hgrow4 (fun j hj => (hown3.lt j hj).1)
        have hr4 := (hr3.alloc _).grown hgrow4 (fun j hj => Nat.lt_of_lt_of_le hgl (hown3.lt j hj).1)
        have Hfl := hideIt (fl3_snoc rs x y z)
        have Hln := hideIt (show (rs ++ [(x, y, z)]).length = L + 1 by rw [List.length_append, Hl.out]; rfl)
        rw [← Hfl.out] at hown4
        clear hgrow4 hown3 hgw3 hr3
        try go_wp2
        go_ret2
        exact ⟨n, rs ++ [(x, y, z)], b', L + 1, c', rfl, hn2, hn6, Hln.out, by omega, Hin.out.snoc hs4.out.1 hs4.out.2.1 hs4.out.2.2.1 hs4.out.2.2.2, hown4, hgw4, hr4.mono (by omega)⟩
      by_cases c2 : v3 = 2
      · subst c2
        have hst := fun v => row3_sb hown3 (k := 0) (by rw [Hl.out]; omega) v
        obtain ⟨_, hold, _⟩ := row3_all hown3 (k := 0) (by rw [Hl.out]; omega)
        simp only [Nat.zero_mul, Nat.zero_add] at hst hold
        clear hown3
        go_wp2
        go_ret2
        exact DrawnR.set hgl hn2 hn6 hb0 (by rw [List.length_set]; exact Hl.out) (by omega) (Hin.out.set 0 Hin0.out.1 Hin0.out.2.1 (by omega) hn63) (hst _) hgw3 hr3 (by omega)
      · have d0 : (v3 == 0) = false := by simp [c0]
        have d1 : (v3 == 1) = false := by simp [c1]
        have d2 : (v3 == 2) = false := by simp [c2]
        clear c0 c1 c2
        go_wp2
        go_ret2
        exact ⟨n, rs, b, L, c, rfl, hn2, hn6, Hl.out, by omega, Hin.out, hown3, hgw3, hr3.mono (by omega)⟩
end Go.Proofs.Ytdnjeahbnidefaa

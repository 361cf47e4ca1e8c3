/- Walks: a drawn way; backOf of the laws. -/
import Derived.Test.YtpiknklaikcilaaDrRo2
import Derived.Test.YtpiknklaikcilaaRo6
import Derived.Test.YtpiknklaikcilaaStep
namespace Go.Proofs.Ytpiknklaikcilaa
open Go.RowKit

/-- drawn roads and a list that is often a way -/
def DrawnWay (w : World) (e : Ending) (w' : World) : Prop :=
  ∃ (n : Nat) (rs : List (Int × Int × Int)) (b m c : Nat) (ws : List Int) (b' q c' : Nat), e = .returned (.tuple #[.int .i64 n, .slice (some ⟨b, 0, none⟩) m c, .slice (some ⟨b', 0, none⟩) q c']) ∧ 2 ≤ n ∧ n ≤ 6 ∧ rs.length = m ∧ m ≤ 10 ∧ ws.length = q ∧ q ≤ 16 ∧ (∀ k, k < ws.length → IntOk (a1 ws k)) ∧ w'.ownsRow w.heap.size 50 3 (.slice (some ⟨b, 0, none⟩) m c) m (fl3 rs) ∧ w'.ownsRow w.heap.size 3 1 (.slice (some ⟨b', 0, none⟩) q c') q (fl1 ws) ∧ Below w.heap.size w w'
theorem snoc_all {P : Int → Prop} {ws : List Int} {x : Int} (h : ∀ k, k < ws.length → P (a1 ws k)) (hx : P x) : ∀ k, k < (ws ++ [x]).length → P (a1 (ws ++ [x]) k) := by
  intro k hk
  unfold a1
  by_cases e : k < ws.length
  · rw [List.getD_eq_getElem?_getD, List.getElem?_append_left e, ← List.getD_eq_getElem?_getD]; exact h k e
  · have : k = ws.length := by simp at hk; omega
    subst this
    simpa [List.getD_eq_getElem?_getD] using hx
set_option maxRecDepth 100000 in
set_option maxHeartbeats 4000000 in
theorem DrawWayLength_any (A : Option Addr) (xs : List Int) (n c : Nat) (w : World) (hl : xs.length = n) (hn : n ≤ 1048576) (hc : n ≤ c) (hx : Bytes xs) (hr : Rd w A (flU xs)) :
    Calls Try.prog 36 #[.slice A n c] w (DrawnWay w) := by
  obtain ⟨i0, hi, hz0, hz1, hz2⟩ := info_parts info_intF
  go_enter Try.func36, Try.ntmps36
  go_wp2_with fail
  refine (l6Open_any _ xs _ _ _ hl hn hc hx hr).mono ?_
  rintro e w1 ⟨g, rfl, hg, hr1, hb1⟩
  have hgl := hr1.lt
  go_wp2_with fail
  refine (l91Roads_any g 0 _ (by omega) hr1).mono ?_
  rintro e w2 ⟨k, rs, b, m, d, rfl, hn2, hn6, hl2, hm, hin, ho2, hg2, hr2⟩
  have Hl2 := hideIt hl2
  have Hin : Hid (RdIn rs) := hideIt hin
  clear hl2 hin
  go_wp2_with fail
  refine (l91Town_any g _ k _ (by omega) hn2 hn6 hr2).mono ?_
  rintro e w3 ⟨at0, rfl, x0, x1, hg3, hr3⟩
  have ho3 := own_pick ho2 hgl hg3
  have hgw3 := grown_same hg2 hg3
  clear ho2 hg2 hg3 hr2
  have hlit := World.ownsRow_lit (base := w3.heap.size) (e := 3) (size := 1) w3 #[.int .i64 at0] 1 (Nat.le_refl _) (by unfold maxLen; omega) rfl
  have ho3' := ho3.alloc (.cells #[.int .i64 at0] 3)
  have hgw3' := grown_alloc hgw3 (.cells #[.int .i64 at0] 3)
  have hr3' := hr3.alloc (.cells #[.int .i64 at0] 3)
  have hgl3 : g < w3.heap.size := Nat.lt_of_lt_of_le hgl hgw3.size
  go_wp2_with fail
  refine (pick_any g _ 6 _ (by omega) (by omega) (by omega) hr3').mono ?_
  rintro e w4 ⟨v4, rfl, h40, h41, hg4, hr4⟩
  have ho4 := own_pick ho3' hgl hg4
  have hgw4 := grown_same hgw3' hg4
  have hw4 := own_pick hlit hgl3 hg4
  have hsz4 : w3.heap.size ≤ w4.heap.size := by have := hg4.size; simp at this; omega
  have hbl : b < w3.heap.size := (ho3.lt b rfl).2
  have HGS := hideIt (hgw3.size)
  clear ho3 ho3' hgw3 hgw3' hg4 hr3 hr3' hlit
  go_wp2
  go_loopw [8, 9, 11] (fun p o i wr => ∃ (j L b' c' : Nat) (at1 : Int) (ws : List Int), (j : Int) ≤ v4 ∧ 1 ≤ L ∧ L ≤ j + 1 ∧ i = .int .i64 j ∧ p = .int .i64 at1 ∧ (-1 ≤ at1 ∧ at1 ≤ 6) ∧ ws.length = L ∧ Hid (∀ k, k < ws.length → IntOk (a1 ws k)) ∧ o = .slice (some ⟨b', 0, none⟩) L c' ∧ wr.ownsRow w1.heap.size 50 3 (.slice (some ⟨b, 0, none⟩) m d) m (fl3 rs) ∧ wr.ownsRow w3.heap.size 3 1 (.slice (some ⟨b', 0, none⟩) L c') L (fl1 ws) ∧ w3.heap.size ≤ wr.heap.size ∧ w1.grownBy wr (some g) ∧ Rdr wr g (200 + 6 * j)) (fun _ _ i _ => v4.toNat - (intOf i).toNat)
  case atStart => exact ⟨0, 1, w3.heap.size, 1, at0, [at0], by omega, by omega, by omega, rfl, rfl, ⟨x0, x1⟩, rfl, hideIt (fun k hk => by
    match k, hk with
    | 0, _ => show IntOk at0; unfold IntOk; omega), rfl, ho4, hw4, hsz4, hgw4, hr4.mono (by omega)⟩
  case round =>
    obtain ⟨j, L, b', c', at1, ws, hj, hL1, hL, rfl, rfl, ⟨a0, a6⟩, hlw, Hok, rfl, hro, hwo, hsz, hgw, hrd⟩ := hrel
    have Hlw := hideIt hlw
    clear hlw ho4 hw4 hgw4 hr4
    by_cases hlt : (j : Int) < v4
    · by_cases hm0 : 0 < m
      · have hm2 : (0 : Int) < (m : Int) := by omega
        have hjw : IntKind.i64.wrap ((j : Int) + 1) = (j : Int) + 1 := IntWalk.i64_in _ (by omega)
        go_wp2_with fail
        refine (pick_any g _ m _ (by omega) (by omega) (by omega) hrd).mono ?_
        rintro e w5 ⟨v5, rfl, h50, h51, hgx, hr5⟩
        have hro5 := own_pick hro hgl hgx
        have hwo5 := own_pick hwo hgl3 hgx
        have hgw5 := grown_same hgw hgx
        clear hrd hro hwo hgw
        obtain ⟨u, rfl⟩ := Int.eq_ofNat_of_zero_le h50
        obtain ⟨hxc, hyc, hzc⟩ := row3_all hro5 (k := u) (by rw [Hl2.out]; omega)
        obtain ⟨p0, p1, q0, q1⟩ := Hin.out.at (k := u) (by rw [Hl2.out]; omega)
        obtain ⟨x, hxe⟩ : ∃ x, a3 rs u = x := ⟨_, rfl⟩
        obtain ⟨y, hye⟩ : ∃ y, b3 rs u = y := ⟨_, rfl⟩
        obtain ⟨z, hze⟩ : ∃ z, c3 rs u = z := ⟨_, rfl⟩
        rw [hxe] at hxc p0 p1
        rw [hye] at hyc q0 q1
        rw [hze] at hzc
        have hro6 := hro5.alloc (.cells #[.int .i64 x, .int .i64 y, .int .i64 z] 50)
        have hwo6 := hwo5.alloc (.cells #[.int .i64 x, .int .i64 y, .int .i64 z] 50)
        have hgw6 := grown_alloc hgw5 (.cells #[.int .i64 x, .int .i64 y, .int .i64 z] 50)
        have hr6 := hr5.alloc (.cells #[.int .i64 x, .int .i64 y, .int .i64 z] 50)
        have hsz5 : w3.heap.size ≤ w5.heap.size := Nat.le_trans hsz hgx.size
        clear hgx
        clear hro5 hwo5 hgw5 hr5 hxe hye hze
        by_cases c1 : x = at1
        · subst c1
          go_wp2_with (at_builtin; refine wpList_append_own _ rfl (.tmp 50) (.tmp 52) 24 rfl w3.heap.size 3 i0 _ 1 8 Try.underlying24 hi hz0 hz1 hz2 rfl (by decide) _ _ _ rfl (hwo6.alloc _) ⟨_, 0, none⟩ 1 1 [.int .i64 y] rfl rfl (news_at (cs := #[.int .i64 y]) (t := 3) (heap_newH _ _ _ (by simp))) (by simp [Value.oneCell']) (by unfold maxLen; omega) (by omega) (by simp; omega) ?_; intro v' wn hown' hgrow hnn; clear hnn)
          obtain ⟨A7, c7, rfl⟩ := own_form hown'
          obtain ⟨b7, rfl, _, _⟩ := own_some hown' (by omega)
          have Hfl := hideIt (show fl1 (ws ++ [y]) = fl1 ws ++ [.int .i64 y] from fl1_snoc ws y)
          have hbb := (hwo6.lt b' rfl).1
          have hgr2 : World.grownBy _ wn (some b') := hgrow
          clear hgrow
          have hro7 := (hro6.alloc (.cells #[.int .i64 y] 3)).kept hgr2 (.inr (fun e => by simp [Value.ownBlock] at e; omega))
          have hgw7 := grown_new (grown_alloc hgw6 (.cells #[.int .i64 y] 3)) hgr2 (fun q e => by have := HGS.out; cases e; omega)
          have hr7 := (hr6.alloc (.cells #[.int .i64 y] 3)).grown hgr2 (fun q e => by have := HGS.out; cases e; omega)
          have hsz7 : w3.heap.size ≤ wn.heap.size := by have := hgr2.size; simp at this; omega
          have Hok7 := hideIt (snoc_all Hok.out (show IntOk y by unfold IntOk; omega))
          clear hgr2 hro6 hwo6 hgw6 hr6 hbb
          go_wp2
          go_roundw
          case rel => exact ⟨j + 1, L + 1, b7, c7, y, ws ++ [y], by omega, by omega, by omega, by go_num, rfl, ⟨by omega, by omega⟩, by rw [List.length_append, Hlw.out]; rfl, Hok7, rfl, hro7, by rw [Hfl.out]; exact hown', hsz7, hgw7, hr7.mono (by omega)⟩
          case measure => simp [intOf]; omega
        · have d1 : (x == at1) = false := by simpa using c1
          clear c1
          by_cases c2 : y = at1
          · subst c2
            go_wp2_with (at_builtin; refine wpList_append_own _ rfl (.tmp 60) (.tmp 62) 24 rfl w3.heap.size 3 i0 _ 1 8 Try.underlying24 hi hz0 hz1 hz2 rfl (by decide) _ _ _ rfl (hwo6.alloc _) ⟨_, 0, none⟩ 1 1 [.int .i64 x] rfl rfl (news_at (cs := #[.int .i64 x]) (t := 3) (heap_newH _ _ _ (by simp))) (by simp [Value.oneCell']) (by unfold maxLen; omega) (by omega) (by simp; omega) ?_; intro v' wn hown' hgrow hnn; clear hnn)
            obtain ⟨A7, c7, rfl⟩ := own_form hown'
            obtain ⟨b7, rfl, _, _⟩ := own_some hown' (by omega)
            have Hfl := hideIt (show fl1 (ws ++ [x]) = fl1 ws ++ [.int .i64 x] from fl1_snoc ws x)
            have hbb := (hwo6.lt b' rfl).1
            have hgr2 : World.grownBy _ wn (some b') := hgrow
            clear hgrow
            have hro7 := (hro6.alloc (.cells #[.int .i64 x] 3)).kept hgr2 (.inr (fun e => by simp [Value.ownBlock] at e; omega))
            have hgw7 := grown_new (grown_alloc hgw6 (.cells #[.int .i64 x] 3)) hgr2 (fun q e => by have := HGS.out; cases e; omega)
            have hr7 := (hr6.alloc (.cells #[.int .i64 x] 3)).grown hgr2 (fun q e => by have := HGS.out; cases e; omega)
            have hsz7 : w3.heap.size ≤ wn.heap.size := by have := hgr2.size; simp at this; omega
            have Hok7 := hideIt (snoc_all Hok.out (show IntOk x by unfold IntOk; omega))
            clear hgr2 hro6 hwo6 hgw6 hr6 hbb
            go_wp2
            go_roundw
            case rel => exact ⟨j + 1, L + 1, b7, c7, x, ws ++ [x], by omega, by omega, by omega, by go_num, rfl, ⟨by omega, by omega⟩, by rw [List.length_append, Hlw.out]; rfl, Hok7, rfl, hro7, by rw [Hfl.out]; exact hown', hsz7, hgw7, hr7.mono (by omega)⟩
            case measure => simp [intOf]; omega
          · have d2 : (y == at1) = false := by simpa using c2
            clear c2
            go_wp2
            go_roundw
            case rel => exact ⟨j + 1, L, b', c', at1, ws, by omega, by omega, by omega, by go_num, rfl, ⟨a0, a6⟩, Hlw.out, Hok, rfl, hro6, hwo6, by simp; omega, hgw6, hr6.mono (by omega)⟩
            case measure => simp [intOf]; omega
      · obtain rfl : m = 0 := by omega
        go_wp2_with fail
        refine (pick_any g _ 12 _ (by omega) (by omega) (by omega) hrd).mono ?_
        rintro e w8 ⟨v8, rfl, h80, h81, hgx, hr8⟩
        have hro8 := own_pick hro hgl hgx
        have hwo8 := own_pick hwo hgl3 hgx
        have hgw8 := grown_same hgw hgx
        have hb8 := below_pick hb1 hgw8 hg hb1.size
        have hs8 : w3.heap.size ≤ w8.heap.size := Nat.le_trans hsz hgx.size
        have hs1 : w.heap.size ≤ w3.heap.size := Nat.le_trans hb1.size HGS.out
        clear hrd hro hwo hgw hgx
        by_cases c8 : v8 = 0
        · subst c8
          go_wp2
          go_ret3
          exact ⟨k, rs, b, 0, d, [], _, 0, 0, rfl, hn2, hn6, Hl2.out, by omega, rfl, by omega, fun q hq => by simp at hq, own_base (hro8.alloc _) hb1.size, own_base (own_empty w8 3 1) hb8.size, hb8.alloc hb8.size _⟩
        · have d8 : (v8 == 0) = false := by simpa using c8
          clear c8
          go_wp2
          go_ret3
          exact ⟨k, rs, b, 0, d, ws, b', L, c', rfl, hn2, hn6, Hl2.out, by omega, Hlw.out, by omega, Hok.out, own_base hro8 hb1.size, own_base hwo8 hs1, hb8⟩
    · go_wp2_with fail
      refine (pick_any g _ 12 _ (by omega) (by omega) (by omega) hrd).mono ?_
      rintro e w8 ⟨v8, rfl, h80, h81, hgx, hr8⟩
      have hro8 := own_pick hro hgl hgx
      have hwo8 := own_pick hwo hgl3 hgx
      have hgw8 := grown_same hgw hgx
      have hb8 := below_pick hb1 hgw8 hg hb1.size
      have hs8 : w3.heap.size ≤ w8.heap.size := Nat.le_trans hsz hgx.size
      have hs1 : w.heap.size ≤ w3.heap.size := Nat.le_trans hb1.size HGS.out
      clear hrd hro hwo hgw hgx
      by_cases c8 : v8 = 0
      · subst c8
        go_wp2
        go_ret3
        exact ⟨k, rs, b, m, d, [], _, 0, 0, rfl, hn2, hn6, Hl2.out, by omega, rfl, by omega, fun q hq => by simp at hq, own_base (hro8.alloc _) hb1.size, own_base (own_empty w8 3 1) hb8.size, hb8.alloc hb8.size _⟩
      · have d8 : (v8 == 0) = false := by simpa using c8
        clear c8
        go_wp2
        go_ret3
        exact ⟨k, rs, b, m, d, ws, b', L, c', rfl, hn2, hn6, Hl2.out, by omega, Hlw.out, by omega, Hok.out, own_base hro8 hb1.size, own_base hwo8 hs1, hb8⟩
theorem fl1_take (ls : List Int) (k : Nat) : ∀ (i : Nat) (u : Value), (fl1 (ls.take k))[i]? = some u → (fl1 ls)[i]? = some u := by
  intro i u h
  have e : fl1 ls = fl1 (ls.take k) ++ fl1 (ls.drop k) := by rw [fl1, fl1, fl1, ← List.flatMap_append, List.take_append_drop]
  rw [e, List.getElem?_append_left (List.getElem?_eq_some_iff.1 h).1]
  exact h
theorem fl1_drop (ls : List Int) (k : Nat) (hk : k ≤ ls.length) : ∀ (i : Nat) (u : Value), (fl1 (ls.drop k))[i]? = some u → (fl1 ls)[k + i]? = some u := by
  intro i u h
  have e : fl1 ls = fl1 (ls.take k) ++ fl1 (ls.drop k) := by rw [fl1, fl1, fl1, ← List.flatMap_append, List.take_append_drop]
  have hl : (fl1 (ls.take k)).length = k := by rw [fl1_len, List.length_take]; omega
  rw [e, List.getElem?_append_right (by omega), hl, Nat.add_sub_cancel_left]
  exact h
theorem fl1_nil_of {ls : List Int} (e : fl1 ls = []) : ls = [] := by
  have e1 := congrArg List.length e
  rw [fl1_len] at e1
  exact List.eq_nil_of_length_eq_zero (by simpa using e1)
theorem Rd.take1 {w : World} {A : Option Addr} {ls : List Int} (h : Rd w A (fl1 ls)) (k : Nat) : Rd w A (fl1 (ls.take k)) := fun hn => by
  obtain ⟨b, off, rfl, hlt, hc⟩ := h (fun e => hn (by rw [fl1_nil_of e]; simp [fl1]))
  exact ⟨b, off, rfl, hlt, fun i u hu => hc i u (fl1_take ls k i u hu)⟩
theorem Rd.drop1 {w : World} {b off : Nat} {ls : List Int} (h : Rd w (some ⟨b, off, none⟩) (fl1 ls)) (k : Nat) (hk : k ≤ ls.length) : Rd w (some ⟨b, off + k, none⟩) (fl1 (ls.drop k)) := fun hn => by
  obtain ⟨b', off', e, hlt, hc⟩ := h (fun e => hn (by rw [fl1_nil_of e]; simp [fl1]))
  cases e
  exact ⟨b, off + k, rfl, hlt, fun i u hu => by rw [Nat.add_assoc]; exact hc _ _ (fl1_drop ls k hk i u hu)⟩
set_option maxRecDepth 100000 in
set_option maxHeartbeats 1000000 in
theorem backOf_any (A : Option Addr) (xs : List Int) (n cap : Nat) (w : World) (hl : xs.length = n) (hn : n ≤ 1048576) (hr : Rd w A (fl1 xs)) :
    Calls Try.prog 37 #[.slice A n cap] w (RetS w 3 1 n (fl1 xs.reverse)) := by
  obtain ⟨i0, hi, hz0, hz1, hz2⟩ := info_parts info_intF
  have Hl := hideIt hl
  clear hl
  have hw1 : IntKind.i64.wrap ((n : Int) - 1) = (n : Int) - 1 := IntWalk.i64_in _ (by omega)
  have ho0 := own_empty w 3 1
  have hb0 := (Below.refl w.heap.size w).alloc (Nat.le_refl _) (.cells #[] 3)
  go_enter Try.func37, Try.ntmps37
  go_wp2
  go_loopw [3, 4] (fun o i wr => ∃ (k c : Nat) (B : Option Addr) (j : Int), k ≤ n ∧ i = .int .i64 j ∧ Hid (j = (n : Int) - 1 - k) ∧ -1 ≤ j ∧ j ≤ (n : Int) - 1 ∧ o = .slice B k c ∧ wr.ownsRow w.heap.size 3 1 (.slice B k c) k (fl1 (xs.reverse.take k)) ∧ Below w.heap.size w wr) (fun _ i _ => (intOf i + 1).toNat)
  case atStart => exact ⟨0, 0, _, (n : Int) - 1, by omega, rfl, hideIt (by omega), by omega, by omega, rfl, ho0, hb0⟩
  case round =>
    obtain ⟨k, c, B, j, hk, rfl, Hj, j0, j1, rfl, hrow, hbw⟩ := hrel
    have hsz := hbw.size
    clear ho0 hb0
    by_cases hj : 0 ≤ j
    · obtain ⟨q, rfl⟩ := Int.eq_ofNat_of_zero_le hj
      have hq := Hj.out
      have hqn : q < xs.length := by rw [Hl.out]; omega
      obtain ⟨b, off, rfl, hblk, hcc⟩ := hr.at1 hqn
      have hcell := hcc q hqn
      rw [← hbw.cell (p := ⟨b, off + q, none⟩) hblk] at hcell
      have Hfl := hideIt (show fl1 (xs.reverse.take (k + 1)) = fl1 (xs.reverse.take k) ++ [.int .i64 (a1 xs q)] by
        rw [rev_snoc 0 xs k (by rw [Hl.out]; omega), fl1_snoc, show xs.length - 1 - k = q by rw [Hl.out]; omega]
        rfl)
      obtain ⟨v, hv⟩ : ∃ v, a1 xs q = v := ⟨_, rfl⟩
      rw [hv] at hcell Hfl
      have hkn : k < n := by omega
      have hqi : (q : Int) < (n : Int) := by omega
      have hqw : IntKind.i64.wrap ((q : Int) - 1) = (q : Int) - 1 := IntWalk.i64_in _ (by omega)
      have Hj2 := hideIt (show (q : Int) - 1 = (n : Int) - 1 - ((k + 1 : Nat) : Int) by omega)
      clear hcc hqn hv hq
      go_wp2_with (at_builtin; refine wpList_append_own _ rfl (.tmp 13) (.tmp 18) 24 rfl w.heap.size 3 i0 _ 1 8 Try.underlying24 hi hz0 hz1 hz2 rfl (by decide) _ _ _ rfl (hrow.alloc _) ⟨_, 0, none⟩ 1 1 [.int .i64 (v)] rfl rfl (cell_one_new _ _ _) (by simp [Value.oneCell']) (by unfold maxLen; omega) (by omega) ((by simp; omega)) ?_; intro v' wn hown' hgrow hnn; clear hnn)
      obtain ⟨A7, c7, rfl⟩ := own_form hown'
      have bN := (hbw.alloc hsz (.cells #[.int .i64 v] 3)).grown hgrow (Nat.le_trans hsz (by simp)) (fun g hg => (hrow.lt g hg).1)
      clear hgrow hrow hbw
      go_wp2
      go_roundw
      case rel => exact ⟨k + 1, c7, A7, (q : Int) - 1, by omega, rfl, Hj2, by omega, by omega, rfl, by rw [Hfl.out]; exact hown', bN⟩
      case measure => simp [intOf]
    · obtain rfl : j = -1 := by omega
      have hkn := Hj.out
      obtain rfl : k = n := by omega
      have hrow2 : wr.ownsRow w.heap.size 3 1 (.slice B k c) k (fl1 xs.reverse) := by
        rw [List.take_of_length_le (by rw [List.length_reverse, Hl.out]; exact Nat.le_refl _)] at hrow
        exact hrow
      clear hkn hrow
      go_wp2
      go_ret
      exact ⟨_, _, rfl, hrow2, hbw⟩
end Go.Proofs.Ytpiknklaikcilaa

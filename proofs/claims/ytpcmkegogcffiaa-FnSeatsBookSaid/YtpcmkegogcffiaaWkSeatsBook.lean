/- The walk of FnSeatsBook. -/
import Derived.Test.YtpcmkegogcffiaaSame
import Derived.Test.YtpcmkegogcffiaaSameBooking
import Derived.Test.YtpcmkegogcffiaaDrSt2
import Derived.Test.YtpcmkegogcffiaaStLaw2
import Derived.Test.YtpcmkegogcffiaaSt6
import Derived.Test.YtpcmkegogcffiaaSt14
namespace Go.Proofs.Ytpcmkegogcffiaa.fnSeatsBook
open Go.RowKit

theorem without_snoc (ls : List (Int × Int × Bool)) (b : Int × Int × Bool) (m : Nat) (hl : ls.length = m) : without (ls ++ [b]) m = ls := by
  subst hl
  unfold without
  rw [List.take_left', List.drop_eq_nil_of_le (by simp), List.append_nil]
  rfl
theorem cancel_snoc {n : Int} {ls : List (Int × Int × Bool)} {b : Int × Int × Bool} {m : Nat} (hl : ls.length = m) (hv : bValid n (ls ++ [b]) = true) : cancelOk n (ls ++ [b]) m = true ∧ seatsCancel n (ls ++ [b]) m = ls := by
  have h : cancelOk n (ls ++ [b]) m = true := by simp [cancelOk, hv, inAt, hl]; omega
  exact ⟨h, by rw [seatsCancel_t h, Int.toNat_natCast, without_snoc ls b m hl]⟩
theorem taken_at {ls : List (Int × Int × Bool)} {ins : Bool} {n k : Nat} (h : k < n) : a1 (upto (takenAt ls ins) n) k = taken ls k ins := by simp [a1, upto, h, takenAt]
theorem other_kind {n : Nat} (ls : List (Int × Int × Bool)) (x y : Int) (z : Bool) : upto (takenAt (ls ++ [(x, y, z)]) (!z)) n = upto (takenAt ls (!z)) n := by
  unfold upto
  apply List.map_congr_left
  intro j _
  unfold takenAt
  rw [taken_snoc, onLeg_is']
  cases z <;> simp
theorem same_kind (ls : List (Int × Int × Bool)) (x y : Int) (z : Bool) (j : Nat) : taken (ls ++ [(x, y, z)]) j z - taken ls j z = if x ≤ j ∧ (j : Int) < y then 1 else 0 := by
  rw [taken_snoc, onLeg_is']
  by_cases h : x ≤ j ∧ (j : Int) < y
  · rw [if_pos (by simp [h.1, h.2]), if_pos h]; omega
  · rw [if_neg (by simp; omega), if_neg h]; omega

set_option maxRecDepth 100000 in
set_option maxHeartbeats 1000000 in
theorem DrawSeatsBook_any (A : Option Addr) (xs : List Int) (n c : Nat) (w : World) (hl : xs.length = n) (hn : n ≤ 1048576) (hc : n ≤ c) (hx : Bytes xs) (hr : Rd w A (flU xs)) :
    Calls Try.prog 23 #[.slice A n c] w fun e w' => ∃ (n : Nat) (ls : List (Int × Int × Bool)) (b m c : Nat) (x y : Int) (z : Bool), e = .returned (.tuple #[.int .i64 n, .slice (some ⟨b, 0, none⟩) m c, .agg #[.int .i64 x, .int .i64 y, .bool z]]) ∧ 1 ≤ n ∧ n ≤ 6 ∧ ls.length = m ∧ m ≤ 16 ∧ w'.ownsRow w.heap.size 40 3 (.slice (some ⟨b, 0, none⟩) m c) m (flB ls) ∧ Below w.heap.size w w' := by
  have hb0 := (Below.refl w.heap.size w).alloc (Nat.le_refl _) (.cells #[.int .i64 0, .int .i64 0, .bool false] 40)
  go_enter Try.func23, Try.ntmps23
  go_wp2_with fail
  refine (l6Open_any _ xs _ _ _ hl hn hc hx (hr.alloc _)).mono ?_
  rintro e w1 ⟨g, rfl, hg, hr1, hb1⟩
  have b1 := below_from hb0 hb1
  have hg' : w.heap.size ≤ g := Nat.le_trans (by simp) hg
  have hgb : (w.alloc (.cells #[.int .i64 0, .int .i64 0, .bool false] 40)).heap.size ≤ g := hg
  have hco := fun (o : Nat) (v : Value) (h : (w.alloc (.cells #[.int .i64 0, .int .i64 0, .bool false] 40)).cell? ⟨w.heap.size, o, none⟩ = some v) => (hb1.cell (p := ⟨w.heap.size, o, none⟩) (by simp)).trans h
  have e0 := hco 0 (.int .i64 0) (by simp)
  have e1 := hco 1 (.int .i64 0) (by simp)
  have e2 := hco 2 (.bool false) (by simp)
  have hfo := fun (o : Nat) => (hb1.frozen (p := ⟨w.heap.size, o, none⟩) (by simp)).trans (show (w.alloc (.cells #[.int .i64 0, .int .i64 0, .bool false] 40)).frozen? ⟨w.heap.size, o, none⟩ = false by simp)
  have Hfo := hideIt hfo
  clear hco hfo
  go_wp2_with fail
  refine (l92Bookings_any g 0 _ (by omega) hr1).mono ?_
  rintro e w2 ⟨nn, ls, b, m, c2, rfl, n1, n6, hl2, hm2, ho2, hg2, hr2⟩
  have b2 := below_pick b1 hg2 hg' b1.size
  go_wp2_with fail
  refine (l92Stretch_any g _ nn _ (by omega) n1 n6 hr2).mono ?_
  rintro e w3 ⟨f, t, rfl, hf, ht, hg3, hr3⟩
  have ho3 := own_pick ho2 hr1.lt hg3
  have b3 := below_pick b2 hg3 hg' b2.size
  go_wp2_with fail
  refine (pick_any g _ 3 _ (by omega) (by omega) (by omega) hr3).mono ?_
  rintro e w4 ⟨v4, rfl, h40, h41, hg4, hr4⟩
  have ho4 := own_pick ho3 hr1.lt hg4
  have b4 := below_pick b3 hg4 hg' b3.size
  have hgA := grown_same (grown_same hg2 hg3) hg4
  have hlt : w.heap.size < w1.heap.size := by have := hb1.size; simp at this; omega
  have hng : some w.heap.size ≠ some g := fun h => by have := Option.some.inj h; simp at hgb; omega
  have d0 := hgA.cell e0 hng
  have d1 := hgA.cell e1 hng
  have d2 := hgA.cell e2 hng
  have hfr : ∀ o, w4.frozen? ⟨w.heap.size, o, none⟩ = false := fun o => (hgA.frozen_far ⟨w.heap.size, o, none⟩ hlt hng).trans (Hfo.out o)
  have Hl2 := hideIt hl2
  clear hl2 e0 e1 e2 hg2 hg3 hg4 hgA hb1 hb0 hgb hng ho2 ho3 b1 b2 b3 hr2 hr3 hr4
  go_wp2
  refine bodyPost_ret (v := .tuple #[.int .i64 nn, .slice (some ⟨b, 0, none⟩) m c2, .agg #[.int .i64 f, .int .i64 t, .bool (decide (0 < v4))]]) (by simp [results, Try.results23, go_sem, d0, d1, d2]) rfl ?_
  have s0 := own_pick ho4 hlt (grown_set w4 w.heap.size 0 (.int .i64 f))
  have s1 := own_pick s0 hlt (grown_set _ w.heap.size 1 (.int .i64 t))
  have s2 := own_pick s1 hlt (grown_set _ w.heap.size 2 (.bool (decide (0 < v4))))
  exact ⟨nn, ls, b, m, c2, f, t, _, rfl, n1, n6, Hl2.out, hm2, own_base s2 (by omega), ((b4.setCell (p := ⟨w.heap.size, 0, none⟩) (Nat.le_refl _) _).setCell (p := ⟨w.heap.size, 1, none⟩) (Nat.le_refl _) _).setCell (p := ⟨w.heap.size, 2, none⟩) (Nat.le_refl _) _⟩
set_option maxRecDepth 100000 in
set_option maxHeartbeats 8000000 in
theorem walk (A : Option Addr) (xs : List Int) (n c : Nat) (w : World) (hl : xs.length = n) (hm : n ≤ maxLen) (hc : n ≤ c) (hx : Bytes xs) (hr : Rd w A (flU xs)) :
    Calls Try.prog 5 #[.slice A n c] w (Ret w (.bool true)) := by
  unfold maxLen at hm
  by_cases hn : n ≤ 1048576
  rotate_left
  · go_enter Try.func5, Try.ntmps5
    go_wp2_with fail
    go_ret
    exact ⟨rfl, Below.refl _ _⟩
  go_enter Try.func5, Try.ntmps5
  go_wp2_with fail
  refine (DrawSeatsBook_any _ xs _ _ _ hl hn hc hx hr).mono ?_
  rintro e w1 ⟨nn, ls, b1, m, c1, x, y, z, rfl, n1, n6, hl1, m16, ho1, hb1⟩
  have Hl1 := hideIt hl1
  clear hl1
  have bW := hb1.alloc hb1.size (.cells #[.int .i64 x, .int .i64 y, .bool z] 40)
  have ho1W := ho1.alloc (.cells #[.int .i64 x, .int .i64 y, .bool z] 40)
  have HC := hideIt (book_cells w1 (.int .i64 x) (.int .i64 y) (.bool z) 40)
  obtain ⟨ms, hms⟩ : ∃ ms, seatsBook nn ls (x, y, z) = ms := ⟨_, rfl⟩
  have hml : ms.length ≤ 1048576 := by rw [← hms]; exact seatsBook_le nn ls (x, y, z)
  obtain ⟨q, hq⟩ : ∃ q, ms.length = q := ⟨_, rfl⟩
  rw [hq] at hml
  have Hms := hideIt hms
  have Hq := hideIt hq
  clear hms hq ho1
  go_wp2_with fail
  refine (implSeatsBook_any _ _ _ _ _ _ _ _ _ Hl1.out (by omega) (Rd.of_own ho1W)).mono ?_
  rw [Hms.out, Hq.out]
  rintro e w2 ⟨A2, c2, rfl, ho2, hb2⟩
  have ho12 := own_below ho1W hb2 (Nat.le_refl _)
  have BB2 := hb2
  obtain ⟨bx, by0, bz, _⟩ := HC.out _ BB2
  go_wp2_with fail
  refine (specSeatsBook_any _ _ _ _ _ _ _ _ _ Hl1.out (by omega) (Rd.of_own ho12)).mono ?_
  rw [Hms.out, Hq.out]
  rintro e w3 ⟨A3, c3, rfl, ho3, hb3⟩
  have BB3 := below_from BB2 hb3
  have ho13 := own_below ho12 hb3 (Nat.le_refl _)
  have ho23 := own_below ho2 hb3 (Nat.le_refl _)
  clear bx by0 bz
  go_wp2_with fail
  refine (sameBookings_any _ _ _ _ _ _ _ _ _ Hq.out Hq.out hml hml (Rd.of_own ho23) (Rd.of_own ho3)).mono ?_
  rw [decide_eq_true rfl]
  rintro e w4 ⟨rfl, hb4⟩
  have BB4 := below_from BB3 hb4
  have ho14 := own_below ho13 hb4 (Nat.le_refl _)
  have ho24 := own_below ho23 hb4 (Nat.le_refl _)
  have ho34 := own_below ho3 hb4 (Nat.le_refl _)
  clear ho1W ho12 ho13 ho2 ho23 ho3 hb2 hb3 hb4 BB2 BB3
  cases hok : bookOk nn ls (x, y, z)
  · have Hok := hideIt hok
    clear hok
    go_wp2_with fail
    refine (sameBookings_any _ _ _ _ _ _ _ _ _ Hq.out Hq.out hml hml (Rd.of_own ho24) (Rd.of_own ho34)).mono ?_
    rw [decide_eq_true rfl]
    rintro e w5 ⟨rfl, hb5⟩
    go_wp2
    go_ret
    exact ⟨rfl, bW.trans ((below_from BB4 hb5).mono bW.size)⟩
  · obtain ⟨hv, hv2⟩ := bookOk_t hok
    have hm2 : ms = ls ++ [(x, y, z)] := by rw [← Hms.out, seatsBook_t hok]
    subst hm2
    have hqm : q = m + 1 := by rw [← Hq.out, List.length_append, Hl1.out]; rfl
    subst hqm
    have hcan := cancel_snoc Hl1.out hv2
    have Hcan := hideIt hcan.1
    have Hcan2 := hideIt hcan.2
    have Hv := hideIt hv
    have Hv2 := hideIt hv2
    have Hoth := hideIt (other_kind (n := nn) ls x y z)
    obtain ⟨g2, rfl, _, _⟩ := own_some ho24 (by omega)
    clear hv hv2 hcan hok ho34
    go_wp2_with fail
    refine (implSeatsCancel_g _ _ _ _ _ _ _ Hq.out (by omega) (Rd.of_own ho24) (own_cap ho24)).mono ?_
    rw [Hcan.out, Hcan2.out, Hl1.out]
    rintro e w5 ⟨A5, c5, rfl, ho5, hb5⟩
    have BB5 := below_from BB4 hb5
    have ho15 := own_below ho14 hb5 (Nat.le_refl _)
    have ho25 := own_below ho24 hb5 (Nat.le_refl _)
    clear ho14 ho24 hb5 BB4
    obtain ⟨bx, by0, bz, _⟩ := HC.out _ BB5
    go_wp2_with fail
    refine (implSeatsTaken_any _ _ _ _ _ _ _ Hl1.out (by omega) (Rd.of_own ho15)).mono ?_
    rw [Hv.out, seatsTaken_t Hv.out, upto_len]
    rintro e w6 ⟨A6, c6, rfl, ho6, hb6⟩
    clear bx by0 bz
    have BB6 := below_from BB5 hb6
    have ho1_6 := own_below ho15 hb6 (Nat.le_refl _)
    clear ho15
    have ho2_6 := own_below ho25 hb6 (Nat.le_refl _)
    clear ho25
    have ho5_6 := own_below ho5 hb6 (Nat.le_refl _)
    clear ho5
    clear hb6 BB5
    obtain ⟨bx, by0, bz, _⟩ := HC.out _ BB6
    go_wp2_with fail
    refine (implSeatsTaken_any _ _ _ _ _ _ _ Hq.out (by omega) (Rd.of_own ho2_6)).mono ?_
    rw [Hv2.out, seatsTaken_t Hv2.out, upto_len]
    rintro e w7 ⟨A7, c7, rfl, ho7, hb7⟩
    clear bx by0 bz
    have BB7 := below_from BB6 hb7
    have ho1_7 := own_below ho1_6 hb7 (Nat.le_refl _)
    clear ho1_6
    have ho2_7 := own_below ho2_6 hb7 (Nat.le_refl _)
    clear ho2_6
    have ho5_7 := own_below ho5_6 hb7 (Nat.le_refl _)
    clear ho5_6
    have ho6_7 := own_below ho6 hb7 (Nat.le_refl _)
    clear ho6
    clear hb7 BB6
    obtain ⟨bx, by0, bz, _⟩ := HC.out _ BB7
    go_wp2_with fail
    refine (implSeatsTaken_any _ _ _ _ _ _ _ Hl1.out (by omega) (Rd.of_own ho1_7)).mono ?_
    rw [Hv.out, seatsTaken_t Hv.out, upto_len]
    rintro e w8 ⟨A8, c8, rfl, ho8, hb8⟩
    clear bx by0 bz
    have BB8 := below_from BB7 hb8
    have ho1_8 := own_below ho1_7 hb8 (Nat.le_refl _)
    clear ho1_7
    have ho2_8 := own_below ho2_7 hb8 (Nat.le_refl _)
    clear ho2_7
    have ho5_8 := own_below ho5_7 hb8 (Nat.le_refl _)
    clear ho5_7
    have ho6_8 := own_below ho6_7 hb8 (Nat.le_refl _)
    clear ho6_7
    have ho7_8 := own_below ho7 hb8 (Nat.le_refl _)
    clear ho7
    clear hb8 BB7
    obtain ⟨bx, by0, bz, _⟩ := HC.out _ BB8
    go_wp2_with fail
    refine (implSeatsTaken_any _ _ _ _ _ _ _ Hq.out (by omega) (Rd.of_own ho2_8)).mono ?_
    rw [Hv2.out, seatsTaken_t Hv2.out, upto_len, Hoth.out]
    rintro e w9 ⟨A9, c9, rfl, ho9, hb9⟩
    clear bx by0 bz
    have BB9 := below_from BB8 hb9
    have ho1_9 := own_below ho1_8 hb9 (Nat.le_refl _)
    clear ho1_8
    have ho2_9 := own_below ho2_8 hb9 (Nat.le_refl _)
    clear ho2_8
    have ho5_9 := own_below ho5_8 hb9 (Nat.le_refl _)
    clear ho5_8
    have ho6_9 := own_below ho6_8 hb9 (Nat.le_refl _)
    clear ho6_8
    have ho7_9 := own_below ho7_8 hb9 (Nat.le_refl _)
    clear ho7_8
    have ho8_9 := own_below ho8 hb9 (Nat.le_refl _)
    clear ho8
    clear hb9 BB8
    have Hu := fun z => hideIt (upto_len (takenAt ls z) nn)
    have Hu2 := hideIt (upto_len (takenAt (ls ++ [(x, y, z)]) z) nn)
    go_wp2
    go_loopw [20] (fun i wr => ∃ (j : Nat), j ≤ nn ∧ i = .int .i64 j ∧ Below w9.heap.size w9 wr) (fun i _ => nn - (intOf i).toNat)
    case atStart => exact ⟨0, by omega, rfl, Below.refl _ _⟩
    case round =>
      obtain ⟨j, hj, rfl, hbw⟩ := hrel
      have BBw := below_from BB9 hbw
      by_cases hlt : j < nn
      · have hk1 : j < (upto (takenAt ls z) nn).length := by rw [upto_len]; exact hlt
        have hk2 : j < (upto (takenAt (ls ++ [(x, y, z)]) z) nn).length := by rw [upto_len]; exact hlt
        obtain ⟨bx, by0, bz, _⟩ := HC.out _ BBw
        have hsd := same_kind ls x y z j
        have t1 := taken_in ls j z
        have t2 := taken_in (ls ++ [(x, y, z)]) j z
        rw [Hl1.out] at t1
        rw [Hq.out] at t2
        obtain ⟨b6, off6, rfl, hb6, hc6⟩ := ((Rd.of_own ho6_9).below hbw (Nat.le_refl _)).at1 hk1
        obtain ⟨b7, off7, rfl, hb7, hc7⟩ := ((Rd.of_own ho7_9).below hbw (Nat.le_refl _)).at1 hk2
        have hx6 := hc6 j hk1
        have hx7 := hc7 j hk2
        rw [taken_at hlt] at hx6 hx7
        obtain ⟨p, hp⟩ : ∃ p, taken ls j z = p := ⟨_, rfl⟩
        obtain ⟨r, hr'⟩ : ∃ p, taken (ls ++ [(x, y, z)]) j z = p := ⟨_, rfl⟩
        rw [hp] at hx6 hsd t1
        rw [hr'] at hx7 hsd t2
        have hjn : (j : Int) < (nn : Int) := by omega
        clear hc6 hc7 hk1 hk2 hp hr'
        by_cases c1 : x ≤ (j : Int)
        · by_cases c2 : (j : Int) < y
          · have hd : IntKind.i64.wrap (r - p) = 1 := by rw [hsd, if_pos ⟨c1, c2⟩]; rfl
            clear hsd
            go_wp2
            go_quiet (fail)
            clear hd
            go_wp2
            go_roundw
            case rel => exact ⟨j + 1, by omega, by go_num, below_drewN hbw _⟩
            case measure => simp [intOf]; omega
          · have hd : IntKind.i64.wrap (r - p) = 0 := by rw [hsd, if_neg (fun h => c2 h.2)]; rfl
            clear hsd
            go_wp2
            go_quiet (fail)
            clear hd
            go_wp2
            go_roundw
            case rel => exact ⟨j + 1, by omega, by go_num, below_drewN hbw _⟩
            case measure => simp [intOf]; omega
        · have hd : IntKind.i64.wrap (r - p) = 0 := by rw [hsd, if_neg (fun h => c1 h.1)]; rfl
          clear hsd
          go_wp2
          go_quiet (fail)
          clear hd
          go_wp2
          go_roundw
          case rel => exact ⟨j + 1, by omega, by go_num, below_drewN hbw _⟩
          case measure => simp [intOf]; omega
      · obtain rfl : j = nn := by omega
        go_wp2_with fail
        refine (sameBookings_any _ _ _ _ _ _ _ _ _ Hl1.out Hl1.out (by omega) (by omega) ((Rd.of_own ho5_9).below hbw (Nat.le_refl _)) ((Rd.of_own ho1_9).below hbw (Nat.le_refl _))).mono ?_
        rw [decide_eq_true rfl]
        rintro e w10 ⟨rfl, hb10⟩
        have hbx := hbw.trans (hb10.mono hbw.size)
        have BBx := below_from BBw hb10
        go_wp2_with fail
        refine (sameInts_any _ _ _ _ _ _ _ _ _ (Hu (!z)).out (Hu (!z)).out (by omega) (by omega) ((Rd.of_own ho8_9).below hbx (Nat.le_refl _)) ((Rd.of_own ho9).below hbx (Nat.le_refl _))).mono ?_
        rw [decide_eq_true rfl]
        rintro e w11 ⟨rfl, hb11⟩
        go_wp2
        go_ret
        exact ⟨rfl, bW.trans ((below_from BBx hb11).mono bW.size)⟩
end Go.Proofs.Ytpcmkegogcffiaa.fnSeatsBook

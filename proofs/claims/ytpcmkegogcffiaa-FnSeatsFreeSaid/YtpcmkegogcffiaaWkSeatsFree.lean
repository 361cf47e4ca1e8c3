/- The walk of FnSeatsFree. -/
import Derived.Test.YtpcmkegogcffiaaDrSt2
import Derived.Test.YtpcmkegogcffiaaStLaw2
import Derived.Test.YtpcmkegogcffiaaSt9
namespace Go.Proofs.Ytpcmkegogcffiaa.fnSeatsFree
open Go.RowKit

set_option maxRecDepth 100000 in
set_option maxHeartbeats 1000000 in
theorem DrawSeatsFree_any (A : Option Addr) (xs : List Int) (n c : Nat) (w : World) (hl : xs.length = n) (hn : n ≤ 1048576) (hc : n ≤ c) (hx : Bytes xs) (hr : Rd w A (flU xs)) :
    Calls Try.prog 31 #[.slice A n c] w fun e w' => ∃ (n : Nat) (ls : List (Int × Int × Bool)) (b m c f t : Nat) (z : Bool), e = .returned (.tuple #[.int .i64 n, .slice (some ⟨b, 0, none⟩) m c, .int .i64 f, .int .i64 t, .bool z]) ∧ 1 ≤ n ∧ n ≤ 6 ∧ ls.length = m ∧ m ≤ 16 ∧ f < n ∧ t ≤ n + 1 ∧ w'.ownsRow w.heap.size 40 3 (.slice (some ⟨b, 0, none⟩) m c) m (flB ls) ∧ Below w.heap.size w w' := by
  go_enter Try.func31, Try.ntmps31
  go_wp2_with fail
  refine (l6Open_any _ xs _ _ _ hl hn hc hx hr).mono ?_
  rintro e w1 ⟨g, rfl, hg, hr1, hb1⟩
  go_wp2_with fail
  refine (l92Bookings_any g 0 _ (by omega) hr1).mono ?_
  rintro e w2 ⟨nn, ls, b, m, c2, rfl, n1, n6, hl2, hm2, ho2, hg2, hr2⟩
  have b2 := below_pick hb1 hg2 hg hb1.size
  go_wp2_with fail
  refine (l92Stretch_any g _ nn _ (by omega) n1 n6 hr2).mono ?_
  rintro e w3 ⟨f, t, rfl, hf, ht, hg3, hr3⟩
  have ho3 := own_pick ho2 hr1.lt hg3
  have b3 := below_pick b2 hg3 hg b2.size
  go_wp2_with fail
  refine (pick_any g _ 3 _ (by omega) (by omega) (by omega) hr3).mono ?_
  rintro e w4 ⟨v4, rfl, h40, h41, hg4, hr4⟩
  have ho4 := own_pick ho3 hr1.lt hg4
  have b4 := below_pick b3 hg4 hg b3.size
  have Hl2 := hideIt hl2
  clear hl2
  go_wp2
  refine bodyPost_ret (v := .tuple #[.int .i64 nn, .slice (some ⟨b, 0, none⟩) m c2, .int .i64 f, .int .i64 t, .bool (decide (0 < v4))]) (by simp [results, Try.results31, go_sem]) rfl ?_
  exact ⟨nn, ls, b, m, c2, f, t, _, rfl, n1, n6, Hl2.out, hm2, hf, ht, own_base ho4 hb1.size, b4⟩

theorem lawsSeatsOf_any (ins : Bool) (w : World) : Calls Try.prog 33 #[.bool ins] w fun e w' => e = .returned (.int .i64 (seats ins)) ∧ w = w' := by
  cases ins
  all_goals
    go_enter Try.func33, Try.ntmps33
    go_wp2
    go_ret
    exact ⟨rfl, rfl⟩

set_option maxRecDepth 100000 in
set_option maxHeartbeats 4000000 in
theorem walk (A : Option Addr) (xs : List Int) (n c : Nat) (B : Option Addr) (ys : List Int) (mo c2 : Nat) (w : World) (hl : xs.length = n) (hm : n ≤ maxLen) (hc : n ≤ c) (hx : Bytes xs) (hr : Rd w A (flU xs)) (hl2 : ys.length = mo) (hm2 : mo ≤ maxLen) (hc2 : mo ≤ c2) (hx2 : Bytes ys) (hr2 : Rd w B (flU ys)) :
    Calls Try.prog 7 #[.slice A n c, .slice B mo c2] w (Ret w (.bool true)) := by
  unfold maxLen at hm hm2
  clear hl2 hx2 hr2 hc2
  by_cases hn : n ≤ 1048576
  rotate_left
  · go_enter Try.func7, Try.ntmps7
    go_wp2_with fail
    go_ret
    exact ⟨rfl, Below.refl _ _⟩
  by_cases hmo : mo ≤ 1048576
  rotate_left
  · go_enter Try.func7, Try.ntmps7
    go_wp2_with fail
    go_ret
    exact ⟨rfl, Below.refl _ _⟩
  clear hm hm2
  go_enter Try.func7, Try.ntmps7
  go_wp2_with fail
  refine (DrawSeatsFree_any _ xs _ _ _ hl hn hc hx hr).mono ?_
  rintro e w1 ⟨nn, ls, b1, m, c1, f, t, ins, rfl, n1, n6, hl1, m16, hfn, htn, ho1, hb1⟩
  have Hl1 := hideIt hl1
  clear hl1
  obtain ⟨o, ho⟩ : ∃ o, seatsFree nn ls f t ins = o := ⟨_, rfl⟩
  have Ho := hideIt ho
  clear ho
  go_wp2_with fail
  refine (implSeatsFree_any _ _ _ _ _ _ _ _ _ Hl1.out (by omega) (Rd.of_own ho1)).mono ?_
  rw [Ho.out]
  rintro e w2 ⟨rfl, hb2⟩
  have b2 := hb1.trans (hb2.mono hb1.size)
  have ho2 := own_below ho1 hb2 (Nat.le_refl _)
  go_wp2_with fail
  refine (specSeatsFree_any _ _ _ _ _ _ _ _ _ Hl1.out (by omega) (Rd.of_own ho2)).mono ?_
  rw [Ho.out]
  rintro e w3 ⟨rfl, hb3⟩
  have b3 := b2.trans (hb3.mono b2.size)
  have ho3 := own_below ho2 hb3 (Nat.le_refl _)
  clear ho1 ho2 hb1 hb2 hb3 b2
  by_cases hgood : bValid nn ls = true ∧ bOk nn (f, t, false) = true
  rotate_left
  · have ho' := Ho.out
    rw [seatsFree, if_neg hgood] at ho'
    subst ho'
    clear hgood
    go_wp2
    go_ret
    exact ⟨rfl, b3⟩
  obtain ⟨hv, hb⟩ := hgood
  obtain ⟨q1, q2, q3, q4, q5⟩ := bValid_parts hv
  obtain ⟨p1, p2, p3⟩ := bOk_parts hb
  have hoo := seatsFree_t (ins := ins) hv hb
  rw [Ho.out] at hoo
  have o0 : 0 ≤ o := by rw [hoo]; exact leastTo_nonneg hv p3 _ (by omega)
  have o1 : o ≤ seats ins := by rw [hoo]; exact leastTo_seats _ _ _ _
  have hbk := bookOk_iff (ins := ins) hv hb
  rw [← hoo, Hl1.out] at hbk
  have Hbk := hideIt hbk
  have Hoo := hideIt hoo
  have Hv := hideIt hv
  have Hb := hideIt hb
  have hsi := seats_in ins
  have ft : f < t := by omega
  obtain ⟨d, hd⟩ : ∃ d, t = f + d := ⟨t - f, by omega⟩
  have hd1 : 1 ≤ d := by omega
  obtain ⟨r, hr'⟩ : ∃ r, mo % d = r := ⟨_, rfl⟩
  have hrd : r < d := by rw [← hr']; exact Nat.mod_lt _ (by omega)
  have hmod : (mo : Int) % (d : Int) = (r : Int) := by rw [← hr']; rfl
  have hpart : seatsFree nn ls f ((f : Int) + r + 1) ins = leastTo ls ins f (r + 1) := by
    have h1 : bOk nn (f, ((f + (r + 1) : Nat) : Int), false) = true := by simp [bOk]; omega
    have := seatsFree_t (ins := ins) hv h1
    rw [show ((f : Int) + r + 1) = ((f + (r + 1) : Nat) : Int) by omega, this]
    congr 1
    omega
  have hge : o ≤ leastTo ls ins f (r + 1) := by
    rw [hoo, show t - f = (r + 1) + (d - (r + 1)) by omega]
    exact leastTo_mono _ _ _ _ _
  obtain ⟨pt, hpt⟩ : ∃ x, leastTo ls ins f (r + 1) = x := ⟨_, rfl⟩
  rw [hpt] at hpart hge
  have Hpart := hideIt hpart
  have hnew : bookOk nn ls (f, t, ins) = true → seatsFree nn (ls ++ [((f : Int), (t : Int), ins)]) f t ins = o - 1 := fun hv2 => by
    rw [seatsFree_t (bookOk_t hv2).2 hb, leastTo_book _ (by omega) (by omega), ← hoo]
  have Hnew : Hid (bookOk nn ls (f, t, ins) = true → seatsFree nn (ls ++ [((f : Int), (t : Int), ins)]) f t ins = o - 1) := hnew
  have hsub : (t : Int) - (f : Int) = (d : Int) := by omega
  have hd2 : (1 : Int) ≤ (d : Int) := by omega
  have hd3 : ((d : Int) == 0) = false := by simp; omega
  have hptb : pt ≤ 6 := by have := leastTo_in ls ins f (r + 1); omega
  clear hv hb q4 q5 hoo hbk hpart hpt hnew hr' hd
  go_wp2_with fail
  refine (implSeatsBook_any _ _ _ _ _ _ _ _ _ Hl1.out (by omega) (Rd.of_own ho3)).mono ?_
  rintro e w4 ⟨A4, c4, rfl, ho4, hb4⟩
  have b4 := b3.trans (hb4.mono b3.size)
  have ho34 := own_below ho3 hb4 (Nat.le_refl _)
  clear ho3 hb4 b3
  cases hbo : bookOk nn ls (f, t, ins)
  · have hno : (decide (0 < o) && decide (m < 16)) = false := by rw [← Hbk.out, hbo]
    have Hbo := hideIt hbo
    clear hbo ho4
    go_wp2_with fail
    refine (implSeatsFree_any _ _ _ _ _ _ _ _ _ Hl1.out (by omega) (Rd.of_own ho34)).mono ?_
    rw [Hpart.out]
    rintro e w5 ⟨rfl, hb5⟩
    have b5 := b4.trans (hb5.mono b4.size)
    by_cases c1 : 0 < o
    · have c2 : ¬ m < 16 := by simp [c1] at hno; omega
      clear hno
      go_wp2_with fail
      refine (lawsSeatsOf_any _ _).mono ?_
      rintro e w' ⟨rfl, rfl⟩
      go_wp2
      go_ret
      exact ⟨ret_bool (by simp; omega), b5⟩
    · clear hno
      go_wp2_with fail
      refine (lawsSeatsOf_any _ _).mono ?_
      rintro e w' ⟨rfl, rfl⟩
      go_wp2
      go_ret
      exact ⟨rfl, b5⟩
  · have hyes : 0 < o ∧ m < 16 := by have := Hbk.out; rw [hbo] at this; simpa using this.symm
    obtain ⟨c1, c2⟩ := hyes
    have hsb := seatsBook_t hbo
    have hlen : (ls ++ [((f : Int), (t : Int), ins)]).length = m + 1 := by rw [List.length_append, Hl1.out]; rfl
    have Hn := hideIt (Hnew.out hbo)
    rw [hsb, hlen] at ho4
    have Hq := hideIt (show (seatsBook nn ls (f, t, ins)).length = m + 1 by rw [hsb, hlen])
    have Hlen := hideIt hlen
    rw [Hq.out]
    clear hbo hsb hlen
    go_wp2_with fail
    refine (implSeatsFree_any _ _ _ _ _ _ _ _ _ Hl1.out (by omega) (Rd.of_own ho34)).mono ?_
    rw [Hpart.out]
    rintro e w5 ⟨rfl, hb5⟩
    have b5 := b4.trans (hb5.mono b4.size)
    have ho5 := own_below ho4 hb5 (Nat.le_refl _)
    clear ho4 hb5 b4 ho34
    go_wp2_with fail
    refine (implSeatsFree_any _ _ _ _ _ _ _ _ _ Hlen.out (by omega) (Rd.of_own ho5)).mono ?_
    rw [Hn.out]
    rintro e w6 ⟨rfl, hb6⟩
    have b6 := b5.trans (hb6.mono b5.size)
    go_wp2_with fail
    refine (lawsSeatsOf_any _ _).mono ?_
    rintro e w' ⟨rfl, rfl⟩
    go_wp2
    go_ret
    exact ⟨rfl, b6⟩
end Go.Proofs.Ytpcmkegogcffiaa.fnSeatsFree

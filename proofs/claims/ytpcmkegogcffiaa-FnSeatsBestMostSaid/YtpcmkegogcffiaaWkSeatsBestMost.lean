/- The walk of FnSeatsBestMost. -/
import Derived.Test.YtpcmkegogcffiaaSame
import Derived.Test.YtpcmkegogcffiaaDrSt4
import Derived.Test.YtpcmkegogcffiaaStLaw4
import Derived.Test.YtpcmkegogcffiaaSt15
import Derived.Test.YtpcmkegogcffiaaSt16
namespace Go.Proofs.Ytpcmkegogcffiaa.fnSeatsBestMost
open Go.RowKit

theorem rdD {w : World} {A : Option Addr} {cs : List Value} (h : Rd w A cs) (n : Nat) : Rd (w.drewN n) A cs := h
theorem cellA {w : World} {a : Addr} {v : Value} (o : Obj) (h : w.cell? a = some v) : (w.alloc o).cell? a = some v := (World.cell?_alloc_some w a o (by rw [h]; rfl)).trans h

/-- two bookings do not meet -/
def apartB (ls : List (Int × Int × Bool)) (x y : Int) : Prop := bB ls x.toNat ≤ aB ls y.toNat ∨ bB ls y.toNat ≤ aB ls x.toNat
def apartTo (ls : List (Int × Int × Bool)) (S : List Int) (i : Nat) : Prop := ∀ j, j < i → ∀ k, k < j → apartB ls (a1 S j) (a1 S k)
theorem apart_of {ls : List (Int × Int × Bool)} {S : List Int} (h : apartTo ls S S.length) : Apart ls (S.map Int.toNat) := by
  unfold Apart
  rw [List.pairwise_map, List.pairwise_iff_getElem]
  intro i j hi hj hij
  have := h j hj i hij
  unfold apartB a1 at this
  rw [List.getD_eq_getElem?_getD, List.getD_eq_getElem?_getD, List.getElem?_eq_getElem hi, List.getElem?_eq_getElem hj] at this
  exact this.symm
theorem most_of {n : Int} {ls : List (Int × Int × Bool)} {m : Nat} (ha : AllB n ls) (hn : n ≤ 7) (hl : ls.length = m) {S : List Int} (hS : ∀ x ∈ S, ∃ z : Nat, x = z ∧ z < m) (h : apartTo ls S S.length) : S.length ≤ (bestOut ls).length := by
  have := bestOut_most ha hn (S.map Int.toNat) (fun x hx => by
    rw [List.mem_map] at hx
    obtain ⟨y, hy, rfl⟩ := hx
    obtain ⟨z, rfl, hz⟩ := hS y hy
    rw [Int.toNat_natCast, hl]
    exact hz) (apart_of h)
  rwa [List.length_map] at this

set_option maxRecDepth 100000 in
set_option maxHeartbeats 8000000 in
theorem walk (A : Option Addr) (xs : List Int) (n c : Nat) (w : World) (hl : xs.length = n) (hm : n ≤ maxLen) (hc : n ≤ c) (hx : Bytes xs) (hr : Rd w A (flU xs)) :
    Calls Try.prog 8 #[.slice A n c] w (Ret w (.bool true)) := by
  unfold maxLen at hm
  by_cases hn : n ≤ 1048576
  rotate_left
  · go_enter Try.func8, Try.ntmps8
    go_wp2_with fail
    go_ret
    exact ⟨rfl, Below.refl _ _⟩
  go_enter Try.func8, Try.ntmps8
  go_wp2_with fail
  refine (DrawSeatsBest_any _ xs _ _ _ hl hn hc hx hr).mono ?_
  rintro e w1 ⟨nn, ls, b1, m, c1, rfl, n1, n6, hl1, m16, ho1, hb1⟩
  have Hl1 := hideIt hl1
  clear hl1
  obtain ⟨ms, hms⟩ : ∃ ms, seatsBest nn ls = ms := ⟨_, rfl⟩
  have hml : ms.length ≤ 1048576 := by rw [← hms]; exact seatsBest_le nn ls
  obtain ⟨q, hq⟩ : ∃ q, ms.length = q := ⟨_, rfl⟩
  rw [hq] at hml
  have Hms := hideIt hms
  have Hq := hideIt hq
  clear hms hq
  go_wp2_with fail
  refine (implSeatsBest_any _ _ _ _ _ _ Hl1.out (by omega) (Rd.of_own ho1)).mono ?_
  rw [Hms.out, Hq.out]
  rintro e w2 ⟨A2, c2, rfl, ho2, hb2⟩
  have b2 := hb1.trans (hb2.mono hb1.size)
  have ho12 := own_below ho1 hb2 (Nat.le_refl _)
  go_wp2_with fail
  refine (specSeatsBest_any _ _ _ _ _ _ Hl1.out (by omega) (Rd.of_own ho12)).mono ?_
  rw [Hms.out, Hq.out]
  rintro e w3 ⟨A3, c3, rfl, ho3, hb3⟩
  have b3 := b2.trans (hb3.mono b2.size)
  have ho13 := own_below ho12 hb3 (Nat.le_refl _)
  have ho23 := own_below ho2 hb3 (Nat.le_refl _)
  go_wp2_with fail
  refine (sameInts_any _ _ _ _ _ _ _ _ _ Hq.out Hq.out hml hml (Rd.of_own ho23) (Rd.of_own ho3)).mono ?_
  rw [decide_eq_true rfl]
  rintro e w4 ⟨rfl, hb4⟩
  have b4 := b3.trans (hb4.mono b3.size)
  have ho14 := own_below ho13 hb4 (Nat.le_refl _)
  have ho24 := own_below ho23 hb4 (Nat.le_refl _)
  have ho34 := own_below ho3 hb4 (Nat.le_refl _)
  clear ho1 ho12 ho13 ho2 ho23 ho3 hb1 hb2 hb3 hb4 b2 b3
  cases hok : bestOk nn ls
  · have Hok := hideIt hok
    clear hok
    go_wp2_with fail
    refine (sameInts_any _ _ _ _ _ _ _ _ _ Hq.out Hq.out hml hml (Rd.of_own ho24) (Rd.of_own ho34)).mono ?_
    rw [decide_eq_true rfl]
    rintro e w5 ⟨rfl, hb5⟩
    go_wp2
    go_ret
    exact ⟨rfl, b4.trans (hb5.mono b4.size)⟩
  have hms2 : bestOut ls = ms := by rw [← Hms.out, seatsBest_t hok]
  have hv : bValid nn ls = true := by
    rw [bestOk, Bool.and_eq_true] at hok
    exact hok.1
  obtain ⟨q1, q2, q3, q4, q5⟩ := bValid_parts hv
  obtain ⟨i0, hi, hz0, hz1, hz2⟩ := info_parts info_int15
  have Hmost : Hid (∀ S : List Int, (∀ x ∈ S, ∃ z : Nat, x = z ∧ z < m) → apartTo ls S S.length → S.length ≤ q) := hideIt fun S hS h => by
    have := most_of q4 q2 Hl1.out hS h
    rwa [hms2, Hq.out] at this
  clear q3 ho34
  by_cases hm8 : 8 < m
  · have hq1 : 1 ≤ q := by
      have h := Hmost.out [0] (fun x hx => by cases List.mem_singleton.mp hx; exact ⟨0, rfl, by omega⟩) (fun j hj k hk => by simp at hj; omega)
      exact h
    have hq2 : (1 : Int) ≤ (q : Int) := by omega
    clear hok hms2 hv q4 q5
    go_wp2
    go_ret
    exact ⟨rfl, b4⟩
  clear hok hms2 hv q4 q5
  go_wp2
  go_loopw [10, 11] (fun pw i wr => ∃ (j p : Nat), j ≤ m ∧ i = .int .i64 j ∧ pw = .int .i64 p ∧ p = 2 ^ j ∧ p ≤ 256 ∧ w4 = wr) (fun _ i _ => m - (intOf i).toNat)
  case atStart => exact ⟨0, 1, by omega, rfl, rfl, rfl, by omega, rfl⟩
  case round =>
    obtain ⟨j, p, hj, rfl, rfl, hp, hp2, rfl⟩ := hrel
    have Hp := hideIt hp
    clear hp
    by_cases hlt : j < m
    · have hpn : 2 * p = 2 ^ (j + 1) := by rw [Nat.pow_succ, ← Hp.out]; omega
      have hpl : 2 * p ≤ 256 := by rw [hpn]; exact Nat.pow_le_pow_right (by omega) (show j + 1 ≤ 8 by omega)
      have Hpn := hideIt hpn
      clear hpn
      go_wp2
      go_roundw
      case rel => exact ⟨j + 1, 2 * p, by omega, by go_num, by go_num, Hpn.out, hpl, trivial⟩
      case measure => simp [intOf]; omega
    · obtain rfl : j = m := by omega
      clear Hp
      go_wp2
      go_loopw [12] (fun s wr => ∃ (k : Nat), k ≤ p ∧ s = .int .i64 k ∧ Below w4.heap.size w4 wr) (fun s _ => p - (intOf s).toNat)
      case atStart => exact ⟨0, by omega, rfl, Below.refl _ _⟩
      case round =>
        obtain ⟨k, hk, rfl, hbw⟩ := hrel
        by_cases hkp : k < p
        · obtain ⟨w5, hw5⟩ : ∃ w5, w5 = wr := ⟨_, rfl⟩
          subst hw5
          have hoE := own_empty w5 3 1
          have hbE := (Below.refl w5.heap.size w5).alloc (Nat.le_refl _) (.cells #[] 3)
          go_wp2
          go_loopw [13, 14, 15] (fun o bs i wv => ∃ (t u r : Nat) (S : List Int), t ≤ j ∧ i = .int .i64 t ∧ bs = .int .i64 u ∧ u ≤ 256 ∧ S.length = r ∧ r ≤ t ∧ (∀ x ∈ S, ∃ z : Nat, x = z ∧ z < j) ∧ wv.ownsRow w5.heap.size 3 1 o r (fl1 S) ∧ Below w5.heap.size w5 wv) (fun _ _ i _ => j - (intOf i).toNat)
          case atStart => exact ⟨0, k, 0, [], by omega, rfl, rfl, by omega, rfl, by omega, (fun x hx => by cases hx), hoE, hbE⟩
          case round =>
            obtain ⟨t, u, r, S, ht, rfl, rfl, hu, hSr, hrt, hSm, hown, hbv⟩ := hrel
            clear hoE hbE
            have HSr := hideIt hSr
            have HSm := hideIt hSm
            clear hSr hSm
            by_cases htj : t < j
            · by_cases hbit : u % 2 = 1
              · have hb1 : ((u : Int) % 2 == 1) = true := by simp; omega
                have hfl : fl1 (S ++ [(t : Int)]) = fl1 S ++ [.int .i64 (t : Int)] := by simp [fl1, enc1]
                have HS2 := hideIt (show (S ++ [(t : Int)]).length = r + 1 by rw [List.length_append, HSr.out]; rfl)
                have HS3 : Hid (∀ x ∈ S ++ [(t : Int)], ∃ z : Nat, x = z ∧ z < j) := hideIt fun x hx => by
                  rcases List.mem_append.mp hx with h | h
                  · exact HSm.out x h
                  · cases List.mem_singleton.mp h; exact ⟨t, rfl, htj⟩
                have hsv := hbv.size
                clear hbit
                go_wp2_with (at_builtin; refine wpList_append_own _ rfl (.tmp 91) (.tmp 93) 26 rfl w5.heap.size 3 i0 _ 1 8 Try.underlying26 hi hz0 hz1 hz2 rfl (by decide) _ _ _ rfl (hown.alloc _) ⟨_, 0, none⟩ 1 1 [.int .i64 ((t : Int))] rfl rfl (cell_one_new _ _ _) (by simp [Value.oneCell']) (by unfold maxLen; omega) (by omega) ((by simp; omega)) ?_; intro v' wn hown' hgrow hnn; clear hnn)
                go_roundw
                case rel => exact ⟨t + 1, u / 2, r + 1, S ++ [(t : Int)], by omega, by go_num, by go_num, by omega, HS2.out, by omega, HS3.out, by rw [hfl]; exact hown', (hbv.alloc hsv _).grown hgrow (Nat.le_trans hsv (by simp)) (fun g hg => (hown.lt g hg).1)⟩
                case measure => simp [intOf]; omega
              · have hb1 : ((u : Int) % 2 == 1) = false := by simp; omega
                clear hbit
                go_wp2
                go_roundw
                case rel => exact ⟨t + 1, u / 2, r, S, by omega, by go_num, by go_num, by omega, HSr.out, by omega, HSm.out, hown, hbv⟩
                case measure => simp [intOf]; omega
            · obtain rfl : t = j := by omega
              obtain ⟨A', c', rfl⟩ := own_form hown
              obtain ⟨w6, hw6⟩ : ∃ w6, w6 = wr := ⟨_, rfl⟩
              subst hw6
              have bBw := hbw.trans (hbv.mono hbw.size)
              have ho6 := own_below ho14 bBw (Nat.le_refl _)
              clear hbv hbw
              go_wp2
              go_loopw [16, 17] (fun f i wv => ∃ (x : Nat) (fb : Bool), x ≤ r ∧ i = .int .i64 x ∧ f = .bool fb ∧ (fb = true → apartTo ls S x) ∧ Below w6.heap.size w6 wv) (fun _ i _ => r - (intOf i).toNat)
              case atStart => exact ⟨0, true, by omega, rfl, rfl, (fun _ a h => by omega), Below.refl _ _⟩
              case round =>
                obtain ⟨x, fb, hx, rfl, rfl, hfb, hbx⟩ := hrel
                have Hfb := hideIt hfb
                clear hfb
                by_cases hxr : x < r
                · go_wp2
                  go_loopw [16, 18] (fun f k wv => ∃ (y : Nat) (gb : Bool), y ≤ x ∧ k = .int .i64 y ∧ f = .bool gb ∧ (gb = true → apartTo ls S x ∧ ∀ v, v < y → apartB ls (a1 S x) (a1 S v)) ∧ Below w6.heap.size w6 wv) (fun _ k _ => x - (intOf k).toNat)
                  case atStart => exact ⟨0, fb, by omega, rfl, rfl, (fun h => ⟨Hfb.out h, fun v hv => by omega⟩), hbx⟩
                  case round =>
                    obtain ⟨y, gb, hy, rfl, rfl, hgb, hby⟩ := hrel
                    have Hgb := hideIt hgb
                    clear hgb hbx
                    by_cases hyx : y < x
                    · have hSx : x < S.length := by rw [HSr.out]; exact hxr
                      have hSy : y < S.length := by rw [HSr.out]; omega
                      obtain ⟨zx, hzx, hzxm⟩ := HSm.out (a1 S x) (a1_mem hSx)
                      obtain ⟨zy, hzy, hzym⟩ := HSm.out (a1 S y) (a1_mem hSy)
                      have hov := own_below ho6 hby (Nat.le_refl _)
                      have hoS := own_below hown hby (Nat.le_refl _)
                      obtain ⟨g5, rfl, hg50, hg51⟩ := own_some hoS (by omega)
                      have hcx := row1_a hoS hSx
                      have hcy := row1_a hoS hSy
                      have Hstep : Hid ((bB ls zx ≤ aB ls zy ∨ bB ls zy ≤ aB ls zx) → gb = true → apartTo ls S x ∧ ∀ v, v < y + 1 → apartB ls (a1 S x) (a1 S v)) := hideIt fun hab h => by
                        obtain ⟨h1, h2⟩ := Hgb.out h
                        refine ⟨h1, fun v hv => ?_⟩
                        by_cases e : v = y
                        · subst e
                          unfold apartB
                          rw [hzx, hzy, Int.toNat_natCast, Int.toNat_natCast]
                          exact hab
                        · exact h2 v (by omega)
                      rw [hzx] at hcx
                      rw [hzy] at hcy
                      obtain ⟨ax0, ay0, ac0⟩ := rowB_a hov (k := zx) (by rw [Hl1.out]; exact hzxm)
                      obtain ⟨bx0, by0, bc0⟩ := rowB_a hov (k := zy) (by rw [Hl1.out]; exact hzym)
                      obtain ⟨fa, hfa⟩ : ∃ v, aB ls zx = v := ⟨_, rfl⟩
                      obtain ⟨ta, hta⟩ : ∃ v, bB ls zx = v := ⟨_, rfl⟩
                      obtain ⟨ca, hca⟩ : ∃ v, cB ls zx = v := ⟨_, rfl⟩
                      obtain ⟨fz, hfz⟩ : ∃ v, aB ls zy = v := ⟨_, rfl⟩
                      obtain ⟨tz, htz⟩ : ∃ v, bB ls zy = v := ⟨_, rfl⟩
                      obtain ⟨cz, hcz⟩ : ∃ v, cB ls zy = v := ⟨_, rfl⟩
                      rw [hfa] at ax0
                      rw [hta] at ay0
                      rw [hca] at ac0
                      rw [hfz] at bx0
                      rw [htz] at by0
                      rw [hcz] at bc0
                      rw [hfa, hta, hfz, htz] at Hstep
                      have hzx2 : (zx : Int) < (t : Int) := by omega
                      have hzy2 : (zy : Int) < (t : Int) := by omega
                      have hxr2 : (x : Int) < (r : Int) := by omega
                      have hyr2 : (y : Int) < (r : Int) := by omega
                      have hsz := hby.size
                      have bA := hby.alloc hsz (.cells #[.int .i64 fa, .int .i64 ta, .bool ca] 40)
                      have bA2 := bA.alloc bA.size (.cells #[.int .i64 fz, .int .i64 tz, .bool cz] 40)
                      have hcyA := cellA (.cells #[.int .i64 fa, .int .i64 ta, .bool ca] 40) hcy
                      have hbxA := cellA (.cells #[.int .i64 fa, .int .i64 ta, .bool ca] 40) bx0
                      have hbyA := cellA (.cells #[.int .i64 fa, .int .i64 ta, .bool ca] 40) by0
                      have hbcA := cellA (.cells #[.int .i64 fa, .int .i64 ta, .bool ca] 40) bc0
                      clear hzx hzy hfa hta hca hfz htz hcz hSx hSy hoS hov
                      cases gb
                      · go_wp2
                        go_roundw
                        case rel => exact ⟨y + 1, false, by omega, by go_num, rfl, (fun h => by cases h), bA2⟩
                        case measure => simp [intOf]; omega
                      · by_cases e1 : ta ≤ fz
                        · go_wp2
                          go_roundw
                          case rel => exact ⟨y + 1, true, by omega, by go_num, rfl, Hstep.out (.inl e1), bA2⟩
                          case measure => simp [intOf]; omega
                        · by_cases e2 : tz ≤ fa
                          · go_wp2
                            go_roundw
                            case rel => exact ⟨y + 1, true, by omega, by go_num, rfl, Hstep.out (.inr e2), bA2⟩
                            case measure => simp [intOf]; omega
                          · go_wp2
                            go_roundw
                            case rel => exact ⟨y + 1, false, by omega, by go_num, rfl, (fun h => by cases h), bA2⟩
                            case measure => simp [intOf]; omega
                    · obtain rfl : y = x := by omega
                      go_wp2
                      go_roundw
                      case rel => exact ⟨y + 1, gb, by omega, by go_num, rfl, (fun h => by
                        obtain ⟨h1, h2⟩ := Hgb.out h
                        intro a ha v hv
                        by_cases e : a = y
                        · subst e; exact h2 v hv
                        · exact h1 a (by omega) v hv), hby⟩
                      case measure => simp [intOf]; omega
                · obtain rfl : x = r := by omega
                  have bE := bBw.trans (hbx.mono bBw.size)
                  cases fb
                  · go_wp2
                    go_roundw
                    case rel => exact ⟨k + 1, by omega, by go_num, bE⟩
                    case measure => simp [intOf]; omega
                  · have hxq : x ≤ q := by rw [← HSr.out]; exact Hmost.out S HSm.out (by rw [HSr.out]; exact Hfb.out rfl)
                    have hxq2 : ¬ q < x := by omega
                    go_wp2
                    go_roundw
                    case rel => exact ⟨k + 1, by omega, by go_num, bE⟩
                    case measure => simp [intOf]; omega
        · go_wp2
          go_ret
          exact ⟨rfl, b4.trans (hbw.mono b4.size)⟩
end Go.Proofs.Ytpcmkegogcffiaa.fnSeatsBestMost

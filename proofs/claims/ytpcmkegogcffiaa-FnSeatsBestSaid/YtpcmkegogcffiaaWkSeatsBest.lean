/- The walk of FnSeatsBest. -/
import Derived.Test.YtpcmkegogcffiaaSame
import Derived.Test.YtpcmkegogcffiaaDrSt4
import Derived.Test.YtpcmkegogcffiaaStLaw4
import Derived.Test.YtpcmkegogcffiaaHasInt
import Derived.Test.YtpcmkegogcffiaaSt15
import Derived.Test.YtpcmkegogcffiaaSt16
namespace Go.Proofs.Ytpcmkegogcffiaa.fnSeatsBest
open Go.RowKit

theorem rdD {w : World} {A : Option Addr} {cs : List Value} (h : Rd w A cs) (n : Nat) : Rd (w.drewN n) A cs := h
theorem cellA {w : World} {a : Addr} {v : Value} (o : Obj) (h : w.cell? a = some v) : (w.alloc o).cell? a = some v := (World.cell?_alloc_some w a o (by rw [h]; rfl)).trans h

set_option maxRecDepth 100000 in
set_option maxHeartbeats 8000000 in
theorem walk (A : Option Addr) (xs : List Int) (n c : Nat) (w : World) (hl : xs.length = n) (hm : n ≤ maxLen) (hc : n ≤ c) (hx : Bytes xs) (hr : Rd w A (flU xs)) :
    Calls Try.prog 9 #[.slice A n c] w (Ret w (.bool true)) := by
  unfold maxLen at hm
  by_cases hn : n ≤ 1048576
  rotate_left
  · go_enter Try.func9, Try.ntmps9
    go_wp2_with fail
    go_ret
    exact ⟨rfl, Below.refl _ _⟩
  go_enter Try.func9, Try.ntmps9
  go_wp2_with fail
  refine (DrawSeatsBest_any _ xs _ _ _ hl hn hc hx hr).mono ?_
  rintro e w1 ⟨nn, ls, b1, m, c1, rfl, n1, n6, hl1, m16, ho1, hb1⟩
  have Hl1 := hideIt hl1
  clear hl1
  obtain ⟨ms, hms⟩ : ∃ ms, seatsBest nn ls = ms := ⟨_, rfl⟩
  have hml : ms.length ≤ 1048576 := by rw [← hms]; exact seatsBest_le nn ls
  obtain ⟨q, hq⟩ : ∃ q, ms.length = q := ⟨_, rfl⟩
  rw [hq] at hml
  have Hms := hideIt hms
  have Hq := hideIt hq
  clear hms hq
  go_wp2_with fail
  refine (implSeatsBest_any _ _ _ _ _ _ Hl1.out (by omega) (Rd.of_own ho1)).mono ?_
  rw [Hms.out, Hq.out]
  rintro e w2 ⟨A2, c2, rfl, ho2, hb2⟩
  have b2 := hb1.trans (hb2.mono hb1.size)
  have ho12 := own_below ho1 hb2 (Nat.le_refl _)
  go_wp2_with fail
  refine (specSeatsBest_any _ _ _ _ _ _ Hl1.out (by omega) (Rd.of_own ho12)).mono ?_
  rw [Hms.out, Hq.out]
  rintro e w3 ⟨A3, c3, rfl, ho3, hb3⟩
  have b3 := b2.trans (hb3.mono b2.size)
  have ho13 := own_below ho12 hb3 (Nat.le_refl _)
  have ho23 := own_below ho2 hb3 (Nat.le_refl _)
  go_wp2_with fail
  refine (sameInts_any _ _ _ _ _ _ _ _ _ Hq.out Hq.out hml hml (Rd.of_own ho23) (Rd.of_own ho3)).mono ?_
  rw [decide_eq_true rfl]
  rintro e w4 ⟨rfl, hb4⟩
  have b4 := b3.trans (hb4.mono b3.size)
  have ho14 := own_below ho13 hb4 (Nat.le_refl _)
  have ho24 := own_below ho23 hb4 (Nat.le_refl _)
  have ho34 := own_below ho3 hb4 (Nat.le_refl _)
  clear ho1 ho12 ho13 ho2 ho23 ho3 hb1 hb2 hb3 hb4 b2 b3
  cases hok : bestOk nn ls
  · have Hok := hideIt hok
    clear hok
    go_wp2_with fail
    refine (sameInts_any _ _ _ _ _ _ _ _ _ Hq.out Hq.out hml hml (Rd.of_own ho24) (Rd.of_own ho34)).mono ?_
    rw [decide_eq_true rfl]
    rintro e w5 ⟨rfl, hb5⟩
    go_wp2
    go_ret
    exact ⟨rfl, b4.trans (hb5.mono b4.size)⟩
  have hms2 : bestOut ls = ms := by rw [← Hms.out, seatsBest_t hok]
  have hv : bValid nn ls = true := by
    rw [bestOk, Bool.and_eq_true] at hok
    exact hok.1
  obtain ⟨q1, q2, q3, q4, q5⟩ := bValid_parts hv
  have Hfew := hideIt (bestOut_few q4 (by omega))
  rw [hms2, Hq.out] at Hfew
  have Hin : Hid (∀ x ∈ ms, ∃ z : Nat, x = z ∧ z < m) := hideIt fun x hx => by
    have h := bestOut_in q4 (hms2 ▸ hx)
    rw [Hl1.out] at h
    exact h
  have Hap : Hid (∀ i z : Nat, (i : Int) ∈ ms → (z : Int) ∈ ms → z ≠ i → meetB ls i z = false) := hideIt fun i z hi hz hne => bestOut_apart q4 (hms2 ▸ hi) (hms2 ▸ hz) hne
  have Hhit : Hid (∀ i, i < m → hitTo ls i ms q = true) := hideIt fun i hi => by
    obtain ⟨z, h1, h2, h3⟩ := bestOut_hit q4 q2 (i := i) (by rw [Hl1.out]; exact hi)
    rw [hms2] at h1
    obtain ⟨j, hj, hj2⟩ := mem_a1 h1
    exact hitTo_of h3 q ⟨j, by rw [← Hq.out]; exact hj, hj2⟩
  have hpos : decide (0 < q) = decide (0 < m) := by
    by_cases hm0 : m = 0
    · have hq0 : q = 0 := by
        by_cases hq0 : q = 0
        · exact hq0
        · obtain ⟨z, _, hz⟩ := Hin.out (a1 ms 0) (a1_mem (by rw [Hq.out]; omega))
          omega
      rw [hm0, hq0]
    · have h := Hhit.out 0 (by omega)
      by_cases hq0 : q = 0
      · rw [hq0] at h; cases h
      · rw [decide_eq_true (by omega), decide_eq_true (by omega)]
  have Hpos := hideIt hpos
  have hfew : (q : Int) ≤ (nn : Int) := Hfew.out
  clear hok hms2 hv q3 q4 q5 hpos ho34 Hfew
  go_wp2
  go_loopw [9] (fun i wr => ∃ (j : Nat), j ≤ m ∧ i = .int .i64 j ∧ Below w4.heap.size w4 wr) (fun i _ => m - (intOf i).toNat)
  case atStart => exact ⟨0, by omega, rfl, Below.refl _ _⟩
  case round =>
    obtain ⟨j, hj, rfl, hbw⟩ := hrel
    by_cases hlt : j < m
    · have hjm : (j : Int) < (m : Int) := by omega
      go_wp2
      go_loopw [10, 11] (fun h k wv => ∃ (kk : Nat) (hb : Bool), kk ≤ q ∧ k = .int .i64 kk ∧ h = .bool hb ∧ hb = hitTo ls j ms kk ∧ Below w4.heap.size w4 wv) (fun _ k _ => q - (intOf k).toNat)
      case atStart => exact ⟨0, false, by omega, rfl, rfl, rfl, hbw⟩
      case round =>
        obtain ⟨kk, hb, hkk, rfl, rfl, hhb, hbv⟩ := hrel
        have Hhb := hideIt hhb
        clear hhb hbw
        by_cases hlk : kk < q
        · have hkq : (kk : Int) < (q : Int) := by omega
          have hkl : kk < ms.length := by rw [Hq.out]; exact hlk
          obtain ⟨z, hz, hzm⟩ := Hin.out (a1 ms kk) (a1_mem hkl)
          have hzmem : (z : Int) ∈ ms := by rw [← hz]; exact a1_mem hkl
          have Hap2 := hideIt (Hap.out j z)
          have Hzm := hideIt hzmem
          have hnext : hitTo ls j ms (kk + 1) = (hb || meetB ls j z) := by rw [hitTo, ← Hhb.out, hz, Int.toNat_natCast]
          have hov := own_below ho14 hbv (Nat.le_refl _)
          have ho2v := own_below ho24 hbv (Nat.le_refl _)
          obtain ⟨g2, rfl, hg0, hg1⟩ := own_some ho2v (by omega)
          have hxk := row1_a ho2v hkl
          rw [hz] at hxk
          obtain ⟨zx0, zy0, zc0⟩ := rowB_a hov (k := z) (by rw [Hl1.out]; exact hzm)
          obtain ⟨jx0, jy0, _⟩ := rowB_a hov (k := j) (by rw [Hl1.out]; exact hlt)
          obtain ⟨zx, hzx⟩ : ∃ v, aB ls z = v := ⟨_, rfl⟩
          obtain ⟨zy, hzy⟩ : ∃ v, bB ls z = v := ⟨_, rfl⟩
          obtain ⟨zc, hzc⟩ : ∃ v, cB ls z = v := ⟨_, rfl⟩
          obtain ⟨jx, hjx⟩ : ∃ v, aB ls j = v := ⟨_, rfl⟩
          obtain ⟨jy, hjy⟩ : ∃ v, bB ls j = v := ⟨_, rfl⟩
          have hmeet : meetB ls j z = (decide (jx < zy) && decide (zx < jy)) := by rw [meetB, hzx, hzy, hjx, hjy]
          rw [hzx] at zx0
          rw [hzy] at zy0
          rw [hzc] at zc0
          rw [hjx] at jx0
          rw [hjy] at jy0
          rw [hmeet] at hnext Hap2
          have Hnext := hideIt hnext
          have hzm2 : (z : Int) < (m : Int) := by omega
          have hbl := (hov.lt b1 rfl).2
          have hsz := hbv.size
          have bA := hbv.alloc hsz (.cells #[.int .i64 zx, .int .i64 zy, .bool zc] 40)
          have ho2A := ho2v.alloc (.cells #[.int .i64 zx, .int .i64 zy, .bool zc] 40)
          have hAx := cellA (.cells #[.int .i64 zx, .int .i64 zy, .bool zc] 40) jx0
          have hAy := cellA (.cells #[.int .i64 zx, .int .i64 zy, .bool zc] 40) jy0
          have hAk := cellA (.cells #[.int .i64 zx, .int .i64 zy, .bool zc] 40) hxk
          clear hz hzmem hzx hzy hzc hjx hjy hmeet hnext hkl
          by_cases c1 : jx < zy
          · by_cases c2 : zx < jy
            · have Hn2 := hideIt (show hitTo ls j ms (kk + 1) = true by rw [Hnext.out, decide_eq_true c1, decide_eq_true c2]; cases hb <;> rfl)
              by_cases hzj : z = j
              · subst hzj
                go_wp2
                go_quiet (fail)
                cases hb
                all_goals
                  go_wp2
                  go_roundw
                  case rel => exact ⟨kk + 1, true, by omega, by go_num, rfl, Hn2.out.symm, below_drewN bA _⟩
                  case measure => simp [intOf]; omega
              · have hne : ((z : Int) != (j : Int)) = true := by simp; omega
                have Hno := hideIt (show decide ((j : Int) ∈ ms) = false by
                  rw [decide_eq_false_iff_not]
                  intro hjm2
                  have := Hap2.out hjm2 Hzm.out hzj
                  rw [decide_eq_true c1, decide_eq_true c2] at this
                  cases this)
                go_wp2
                go_quiet (fail)
                go_wp2_with fail
                refine (hasInt_any _ ms _ _ _ _ Hq.out hml (rdD (Rd.of_own ho2A) _)).mono ?_
                rw [Hno.out]
                rintro e w9 ⟨rfl, rfl⟩
                cases hb
                all_goals
                  go_wp2
                  go_roundw
                  case rel => exact ⟨kk + 1, true, by omega, by go_num, rfl, Hn2.out.symm, below_drewN bA _⟩
                  case measure => simp [intOf]; omega
            · have Hn2 := hideIt (show hitTo ls j ms (kk + 1) = hb by rw [Hnext.out, decide_eq_false c2, Bool.and_false, Bool.or_false])
              go_wp2
              go_quiet (fail)
              cases hb
              all_goals
                go_wp2
                go_roundw
                case rel => exact ⟨kk + 1, _, by omega, by go_num, rfl, Hn2.out.symm, below_drewN bA _⟩
                case measure => simp [intOf]; omega
          · have Hn2 := hideIt (show hitTo ls j ms (kk + 1) = hb by rw [Hnext.out, decide_eq_false c1, Bool.false_and, Bool.or_false])
            have hd1 : decide (jx < zy) = false := decide_eq_false c1
            clear c1
            go_wp2
            go_quiet (fail)
            cases hb
            all_goals
              go_wp2
              go_roundw
              case rel => exact ⟨kk + 1, _, by omega, by go_num, rfl, Hn2.out.symm, below_drewN bA _⟩
              case measure => simp [intOf]; omega
        · obtain rfl : kk = q := by omega
          have hh := Hhb.out
          rw [Hhit.out j hlt] at hh
          subst hh
          clear Hhb
          go_wp2
          go_roundw
          case rel => exact ⟨j + 1, by omega, by go_num, hbv⟩
          case measure => simp [intOf]; omega
    · obtain rfl : j = m := by omega
      by_cases hm0 : 0 < j
      · have hq0 : 0 < q := by have := Hpos.out; simp [hm0] at this; omega
        go_wp2
        go_ret
        exact ⟨rfl, b4.trans (hbw.mono b4.size)⟩
      · have hq0 : ¬ 0 < q := by have := Hpos.out; simp [hm0] at this; omega
        go_wp2
        go_ret
        exact ⟨rfl, b4.trans (hbw.mono b4.size)⟩
end Go.Proofs.Ytpcmkegogcffiaa.fnSeatsBest

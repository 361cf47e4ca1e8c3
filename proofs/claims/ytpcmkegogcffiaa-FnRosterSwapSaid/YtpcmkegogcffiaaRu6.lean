/- Walks: slices.Clone of ints; RosterSwap of the program and of the reference. -/
import Derived.Test.YtpcmkegogcffiaaRuLaw3
import Derived.Test.YtpcmkegogcffiaaRu5
import Derived.WalkSpells
import Derived.Lib.LazyBuf
namespace Go.Proofs.Ytpcmkegogcffiaa
open Go.RowKit

theorem info_intR : (Try.prog.info? 3).map (fun i => (i.zero, i.size, i.bytes)) = some (some (.int .i64 0), 1, 8) := by kernel_rfl
set_option maxRecDepth 100000 in
set_option maxHeartbeats 1000000 in
theorem cloneInt_any (a : Addr) (ps : List Int) (n cap : Nat) (w : World) (hl : ps.length = n) (hn : n ≤ 1048576) (hr : Rd w (some a) (fl1 ps)) :
    Calls Try.prog 66 #[.slice (some a) n cap] w (RetS w 3 1 n (fl1 ps)) := by
  obtain ⟨i0, hi, hz0, hz1, hz2⟩ := info_parts info_intR
  have hnil := fun w => Lib.run_eql_slice_nil (P := Try.prog) w 26 3 (some a) n cap 0 0 Try.underlying26
  go_enter Try.func66, Try.ntmps66
  have Hl := hideIt (show (fl1 ps).length = n * 1 by rw [fl1_len, hl, Nat.mul_one])
  clear hl
  go_wp2_with (at_builtin; refine wpList_append_own _ rfl (.tmp 5) (.tmp 6) 26 rfl w.heap.size 3 i0 _ 1 8 Try.underlying26 hi hz0 hz1 hz2 rfl (by decide) _ _ _ rfl (own_empty w 3 1) a n cap (fl1 ps) rfl Hl.out (hr.alloc _).news (fl1_one ps) (by unfold maxLen; omega) (by omega) (by simp) ?_; intro v' w1 hown' hgrow _)
  rw [Nat.zero_add, List.nil_append] at hown'
  have hbw : Below w.heap.size w w1 := ((Below.refl _ _).alloc (Nat.le_refl _) _).grown hgrow (by simp) (by intro k hk; cases hk; exact Nat.le_refl _)
  obtain ⟨A', cap', rfl⟩ := own_form hown'
  go_wp2
  go_ret
  exact ⟨_, _, rfl, hown', hbw⟩

theorem below_store {w0 w w' : World} {base t size n g i : Nat} {v : Value} {xs : List Value} (hb : Below w0.heap.size w0 w) (hB : w0.heap.size ≤ g) (u : Value) : Below w0.heap.size w0 (w.setCell ⟨g, i, none⟩ u) :=
  hb.setCell (p := ⟨g, i, none⟩) hB u
theorem swapIn_f {m : Nat} {f a b : Int} (h : swapIn m f a b = false) : f < 0 ∨ (m : Int) ≤ f ∨ a < 0 ∨ 12 ≤ a ∨ b < 0 ∨ 12 ≤ b := by
  simp only [swapIn, Bool.and_eq_false_iff, decide_eq_false_iff_not] at h
  omega
theorem swapIn_t {m : Nat} {f a b : Int} (h : swapIn m f a b = true) : (0 ≤ f ∧ f < m) ∧ (0 ≤ a ∧ a < 12) ∧ 0 ≤ b ∧ b < 12 := by
  simp only [swapIn, Bool.and_eq_true, decide_eq_true_eq] at h
  omega
theorem swapped_sub (ro : List Int) (f : Nat) (a b : Int) (q : Nat) (h : ro.length = q) : swapFrom ro f a b (q - f) = swapped ro f a b := by
  subst h; unfold swapped; rw [Int.toNat_natCast]

set_option maxRecDepth 100000 in
set_option maxHeartbeats 2000000 in
theorem implRosterSwap_any (A : Option Addr) (rs : List (Int × Int)) (m cap : Nat) (rest : Int) (B : Option Addr) (ro : List Int) (q capB : Nat) (f a b : Int) (w : World) (hl : rs.length = m) (hm : m ≤ 1048576) (hr : Rd w A (fl2 rs)) (hlb : ro.length = q) (hq : q ≤ 1048576) (hs : Rd w B (fl1 ro)) :
    Calls Try.prog 38 #[.slice A m cap, .int .i64 rest, .slice B q capB, .int .i64 f, .int .i64 a, .int .i64 b] w (RetSB w 3 1 (rosterSwap rs rest ro f a b).length (fl1 (rosterSwap rs rest ro f a b)) (swapOk rs rest ro f a b)) := by
  have Hl := hideIt hl
  have Hlb := hideIt hlb
  cases h1 : rosterValid rs rest ro
  · have hok : swapOk rs rest ro f a b = false := by rw [swapOk, h1]; rfl
    have hsw : rosterSwap rs rest ro f a b = [] := by rw [rosterSwap, hok]; rfl
    rw [hok, hsw]
    have H1 := hideIt h1
    clear h1 hok hsw hl hlb
    go_enter Try.func38, Try.ntmps38
    go_wp2_with fail
    refine (implRosterValid_any _ _ _ _ _ _ _ _ _ _ _ Hl.out hm hr Hlb.out hq hs H1.out).mono ?_
    rintro e w1 ⟨rfl, hb1⟩
    go_wp2
    go_ret2
    exact ⟨_, _, rfl, own_base (own_empty w1 3 1) hb1.size, hb1.alloc hb1.size _⟩
  cases h2 : swapIn rs.length f a b
  · have hok : swapOk rs rest ro f a b = false := by rw [swapOk, h1, h2]; rfl
    have hsw : rosterSwap rs rest ro f a b = [] := by rw [rosterSwap, hok]; rfl
    rw [hok, hsw]
    have H1 := hideIt h1
    rw [hl] at h2
    have hf := swapIn_f h2
    clear h1 h2 hok hsw hl hlb
    rcases hf with c | c | c | c | c | c
    all_goals
      go_enter Try.func38, Try.ntmps38
      go_wp2_with (first | (go_at_call 65; refine (implRosterValid_any _ _ _ _ _ _ _ _ _ _ _ Hl.out hm hr Hlb.out hq hs H1.out).mono ?_; rintro e w1 ⟨rfl, hb1⟩) | fail)
      all_goals
        go_ret2
        exact ⟨_, _, rfl, own_base (own_empty w1 3 1) hb1.size, hb1.alloc hb1.size _⟩
  rw [hl] at h2
  obtain ⟨⟨f0, f1⟩, ⟨a0, a1'⟩, b0, b1⟩ := swapIn_t h2
  obtain ⟨fn, rfl⟩ := Int.eq_ofNat_of_zero_le f0
  obtain ⟨_, hqm, _⟩ := rosterValid_in h1
  obtain rfl : q = m := by omega
  have H1 := hideIt h1
  obtain ⟨ok, hok⟩ : ∃ ok, rosterValid rs rest (swapped ro fn a b) = ok := ⟨_, rfl⟩
  have Hok := hideIt hok
  have Hsub := hideIt (swapped_sub ro fn a b q hlb)
  have Hlen := hideIt (show (swapped ro fn a b).length = q by rw [swapped_len, hlb])
  have hsok : swapOk rs rest ro fn a b = ok := by rw [swapOk, h1, hl, h2, hok]; rfl
  obtain ⟨X, hX⟩ : ∃ X, rosterSwap rs rest ro fn a b = X := ⟨_, rfl⟩
  have HX0 : Hid (ok = false → X = []) := hideIt fun h => by rw [← hX, rosterSwap, hsok, h]; rfl
  have HX1 : Hid (ok = true → X = swapped ro fn a b) := hideIt fun h => by rw [← hX, rosterSwap, hsok, if_pos h]
  rw [hsok, hX]
  obtain ⟨bo, offo, hB, hbo, _⟩ := hs.at1 (k := fn) (by omega)
  subst hB
  clear h1 h2 hok hqm hsok hX hl hlb f0
  go_enter Try.func38, Try.ntmps38
  go_wp2_with fail
  refine (implRosterValid_any _ _ _ _ _ _ _ _ _ _ _ Hl.out hm hr Hlb.out hq hs H1.out).mono ?_
  rintro e w1 ⟨rfl, hb1⟩
  go_wp2_with fail
  refine (cloneInt_any _ _ _ _ _ Hlb.out hq (hs.below hb1 (Nat.le_refl _))).mono ?_
  rintro e w2 ⟨A2, c2, rfl, ho2, hb2⟩
  have hb20 := hb1.trans (hb2.mono hb1.size)
  obtain ⟨g, rfl, hg0, hg1⟩ := own_some ho2 (by omega)
  have hg00 := Nat.le_trans hb1.size hg0
  go_wp2
  go_loopw [15] (fun i wr => ∃ (d : Nat), fn + d ≤ q ∧ i = .int .i64 ((fn + d : Nat) : Int) ∧ wr.ownsRow w1.heap.size 3 1 (.slice (some ⟨g, 0, none⟩) q c2) q (fl1 (swapFrom ro fn a b d)) ∧ Below w.heap.size w wr) (fun i _ => q - (intOf i).toNat)
  case atStart => exact ⟨0, by omega, rfl, ho2, hb20⟩
  case round =>
    obtain ⟨d, hd, rfl, hrow, hbw⟩ := hrel
    clear ho2 hb2 hb20
    by_cases hlt : fn + d < q
    · have hcell := row1_a hrow (k := fn + d) (by rw [swapFrom_len, Hlb.out]; exact hlt)
      have hval : a1 (swapFrom ro fn a b d) (fn + d) = a1 ro (fn + d) := by rw [swapFrom_at _ _ _ _ _ (by rw [Hlb.out]; exact hlt), if_neg (by omega)]
      have hst := row1_store hrow (k := fn + d) (by rw [swapFrom_len, Hlb.out]; exact hlt) (sw2 a b (a1 ro (fn + d)))
      have hfr := fun j => hrow.frozenAt j
      rw [hval] at hcell
      obtain ⟨x, hx⟩ : ∃ x, a1 ro (fn + d) = x := ⟨_, rfl⟩
      have Hnx := hideIt (show (swapFrom ro fn a b d).set (fn + d) (sw2 a b x) = swapFrom ro fn a b (d + 1) by rw [swapFrom, hx])
      have Hkp := hideIt (show sw2 a b x = x → swapFrom ro fn a b d = swapFrom ro fn a b (d + 1) from fun h => by
        rw [swapFrom, hx, h, ← hx, ← hval]
        have hlen : fn + d < (swapFrom ro fn a b d).length := by rw [swapFrom_len, Hlb.out]; exact hlt
        rw [a1, List.getD_eq_getElem?_getD, List.getElem?_eq_getElem hlen]
        simp)
      rw [hx] at hcell hst
      rw [Hnx.out] at hst
      have hsb := below_store (i := fn + d) (n := 0) (base := 0) (t := 0) (size := 0) (v := .bool true) (xs := []) (w' := w) hbw hg00
      clear hval hx
      by_cases e1 : x = a
      · subst e1
        have hsw : sw2 x b x = b := by simp [sw2]
        rw [hsw] at hst
        clear hsw
        go_wp2
        go_roundw
        case rel => exact ⟨d + 1, by omega, by go_num, hst, hsb _⟩
        case measure => simp [intOf]; omega
      · by_cases e2 : x = b
        · subst e2
          have hsw : sw2 a x x = a := by simp [sw2, e1]
          rw [hsw] at hst
          have hd1 : (x == a) = false := by simp [e1]
          clear hsw e1
          go_wp2
          go_roundw
          case rel => exact ⟨d + 1, by omega, by go_num, hst, hsb _⟩
          case measure => simp [intOf]; omega
        · have hsw : sw2 a b x = x := by simp [sw2, e1, e2]
          have Hkp' := hideIt (Hkp.out hsw)
          have hd1 : (x == a) = false := by simp [e1]
          have hd2 : (x == b) = false := by simp [e2]
          clear hsw e1 e2 hst hsb
          go_wp2
          go_roundw
          case rel => exact ⟨d + 1, by omega, by go_num, by rw [← Hkp'.out]; exact hrow, hbw⟩
          case measure => simp [intOf]; omega
    · obtain ⟨d', hd'⟩ : ∃ d', d = d' := ⟨_, rfl⟩
      have hdq : fn + d = q := by omega
      rw [show d = q - fn by omega, Hsub.out] at hrow
      clear hd'
      go_wp2_with fail
      refine (implRosterValid_any _ _ _ _ _ _ _ _ _ _ _ Hl.out hm (hr.below hbw (Nat.le_refl _)) Hlen.out hq (Rd.of_own hrow) Hok.out).mono ?_
      rintro e w3 ⟨rfl, hb3⟩
      have hrow3 := own_below hrow hb3 (Nat.le_refl _)
      have hbw3 := hbw.trans (hb3.mono hbw.size)
      cases ok
      · go_wp2
        go_ret2
        rw [HX0.out (by trivial)]
        exact ⟨_, _, rfl, own_base (own_empty w3 3 1) hbw3.size, hbw3.alloc hbw3.size _⟩
      · go_wp2
        go_ret2
        rw [HX1.out (by trivial), Hlen.out]
        exact ⟨_, _, rfl, own_base hrow3 hb1.size, hbw3⟩

set_option maxRecDepth 100000 in
set_option maxHeartbeats 2000000 in
theorem specRosterSwap_any (A : Option Addr) (rs : List (Int × Int)) (m cap : Nat) (rest : Int) (B : Option Addr) (ro : List Int) (q capB : Nat) (f a b : Int) (w : World) (hl : rs.length = m) (hm : m ≤ 1048576) (hr : Rd w A (fl2 rs)) (hlb : ro.length = q) (hq : q ≤ 1048576) (hs : Rd w B (fl1 ro)) :
    Calls Try.prog 39 #[.slice A m cap, .int .i64 rest, .slice B q capB, .int .i64 f, .int .i64 a, .int .i64 b] w (RetSB w 3 1 (rosterSwap rs rest ro f a b).length (fl1 (rosterSwap rs rest ro f a b)) (swapOk rs rest ro f a b)) := by
  have Hl := hideIt hl
  have Hlb := hideIt hlb
  obtain ⟨i0, hi, hz0, hz1, hz2⟩ := info_parts info_intR
  cases h1 : rosterValid rs rest ro
  · have hok : swapOk rs rest ro f a b = false := by rw [swapOk, h1]; rfl
    have hsw : rosterSwap rs rest ro f a b = [] := by rw [rosterSwap, hok]; rfl
    rw [hok, hsw]
    have H1 := hideIt h1
    clear h1 hok hsw hl hlb
    go_enter Try.func39, Try.ntmps39
    go_wp2_with fail
    refine (specRosterValid_any _ _ _ _ _ _ _ _ _ _ _ Hl.out hm hr Hlb.out hq hs H1.out).mono ?_
    rintro e w1 ⟨rfl, hb1⟩
    go_wp2
    go_ret2
    exact ⟨_, _, rfl, own_base (own_empty w1 3 1) hb1.size, hb1.alloc hb1.size _⟩
  cases h2 : swapIn rs.length f a b
  · have hok : swapOk rs rest ro f a b = false := by rw [swapOk, h1, h2]; rfl
    have hsw : rosterSwap rs rest ro f a b = [] := by rw [rosterSwap, hok]; rfl
    rw [hok, hsw]
    have H1 := hideIt h1
    rw [hl] at h2
    obtain ⟨r1, hr1⟩ : ∃ r, (decide (0 ≤ f) && decide (f ≤ (m : Int) - 1)) = r := ⟨_, rfl⟩
    obtain ⟨r2, hr2⟩ : ∃ r, (decide (0 ≤ a) && decide (a ≤ 11)) = r := ⟨_, rfl⟩
    obtain ⟨r3, hr3⟩ : ∃ r, (decide (0 ≤ b) && decide (b ≤ 11)) = r := ⟨_, rfl⟩
    rw [swapIn, hr1, hr2, hr3] at h2
    have R1 := hideIt hr1
    have R2 := hideIt hr2
    have R3 := hideIt hr3
    clear h1 hok hsw hl hlb hr1 hr2 hr3
    go_enter Try.func39, Try.ntmps39
    go_wp2_with fail
    refine (specRosterValid_any _ _ _ _ _ _ _ _ _ _ _ Hl.out hm hr Hlb.out hq hs H1.out).mono ?_
    rintro e w1 ⟨rfl, hb1⟩
    go_wp2_with fail
    refine (l6In_any _ _ _ _ _ R1.out).mono ?_
    rintro e w2 ⟨rfl, rfl⟩
    cases r1
    · go_wp2
      go_ret2
      exact ⟨_, _, rfl, own_base (own_empty w1 3 1) hb1.size, hb1.alloc hb1.size _⟩
    go_wp2_with fail
    refine (l6In_any _ _ _ _ _ R2.out).mono ?_
    rintro e w2 ⟨rfl, rfl⟩
    cases r2
    · go_wp2
      go_ret2
      exact ⟨_, _, rfl, own_base (own_empty w1 3 1) hb1.size, hb1.alloc hb1.size _⟩
    obtain rfl : r3 = false := by simpa using h2
    clear h2
    go_wp2_with fail
    refine (l6In_any _ _ _ _ _ R3.out).mono ?_
    rintro e w2 ⟨rfl, rfl⟩
    go_wp2
    go_ret2
    exact ⟨_, _, rfl, own_base (own_empty w1 3 1) hb1.size, hb1.alloc hb1.size _⟩
  rw [hl] at h2
  obtain ⟨⟨f0, f1⟩, ⟨a0, a1'⟩, b0, b1⟩ := swapIn_t h2
  obtain ⟨fn, rfl⟩ := Int.eq_ofNat_of_zero_le f0
  obtain ⟨_, hqm, _⟩ := rosterValid_in h1
  obtain rfl : q = m := by omega
  have H1 := hideIt h1
  obtain ⟨ok, hok⟩ : ∃ ok, rosterValid rs rest (swapped ro fn a b) = ok := ⟨_, rfl⟩
  have Hok := hideIt hok
  have Hsub := hideIt (swapped_sub ro fn a b q hlb)
  have Hlen := hideIt (show (swapped ro fn a b).length = q by rw [swapped_len, hlb])
  have hsok : swapOk rs rest ro fn a b = ok := by rw [swapOk, h1, hl, h2, hok]; rfl
  obtain ⟨X, hX⟩ : ∃ X, rosterSwap rs rest ro fn a b = X := ⟨_, rfl⟩
  have HX0 : Hid (ok = false → X = []) := hideIt fun h => by rw [← hX, rosterSwap, hsok, h]; rfl
  have HX1 : Hid (ok = true → X = swapped ro fn a b) := hideIt fun h => by rw [← hX, rosterSwap, hsok, if_pos h]
  rw [hsok, hX]
  obtain ⟨bo, offo, hB, hbo, hcB⟩ := hs.at1 (k := fn) (by omega)
  subst hB
  have Hl1 := hideIt (show (fl1 ro).length = q * 1 by rw [fl1_len, hlb, Nat.mul_one])
  have R1 := hideIt (show (decide (0 ≤ (fn : Int)) && decide ((fn : Int) ≤ (q : Int) - 1)) = true by simp; omega)
  have R2 := hideIt (show (decide (0 ≤ a) && decide (a ≤ 11)) = true by simp; omega)
  have R3 := hideIt (show (decide (0 ≤ b) && decide (b ≤ 11)) = true by simp; omega)
  have HcB : Hid (∀ i, i < ro.length → w.cell? ⟨bo, offo + i, none⟩ = some (.int .i64 (a1 ro i))) := hideIt hcB
  clear h1 h2 hok hqm hsok hX hl hlb f0 hcB
  go_enter Try.func39, Try.ntmps39
  go_wp2_with fail
  refine (specRosterValid_any _ _ _ _ _ _ _ _ _ _ _ Hl.out hm hr Hlb.out hq hs H1.out).mono ?_
  rintro e w1 ⟨rfl, hb1⟩
  go_wp2_with fail
  refine (l6In_any _ _ _ _ _ R1.out).mono ?_
  rintro e w2 ⟨rfl, rfl⟩
  go_wp2_with fail
  refine (l6In_any _ _ _ _ _ R2.out).mono ?_
  rintro e w2 ⟨rfl, rfl⟩
  go_wp2_with fail
  refine (l6In_any _ _ _ _ _ R3.out).mono ?_
  rintro e w2 ⟨rfl, rfl⟩
  have hnews := ((hs.below hb1 (Nat.le_refl _)).alloc (.cells #[] 3)).news
  go_wp2_with (at_builtin; refine wpList_append_own _ rfl (.tmp 40) (.tmp 41) 26 rfl w1.heap.size 3 i0 _ 1 8 Try.underlying26 hi hz0 hz1 hz2 rfl (by decide) _ _ _ rfl (own_empty w1 3 1) ⟨bo, offo, none⟩ q capB (fl1 ro) rfl Hl1.out hnews (fl1_one ro) (by unfold maxLen; omega) (by omega) (by simp) ?_; intro v' w2 hown' hgrow hnn; clear hnn)
  rw [Nat.zero_add, List.nil_append] at hown'
  have hb20 : Below w.heap.size w w2 := (hb1.alloc hb1.size (.cells #[] 3)).grown hgrow (by simp; exact Nat.le_succ_of_le hb1.size) (by intro k hk; cases hk; exact hb1.size)
  obtain ⟨A2, c2, rfl⟩ := own_form hown'
  obtain ⟨g, rfl, hg0, hg1⟩ := own_some hown' (by omega)
  have hg00 := Nat.le_trans hb1.size hg0
  clear hgrow hnews
  go_wp2
  go_loopw [15] (fun i wr => ∃ (d : Nat), fn + d ≤ q ∧ i = .int .i64 ((fn + d : Nat) : Int) ∧ wr.ownsRow w1.heap.size 3 1 (.slice (some ⟨g, 0, none⟩) q c2) q (fl1 (swapFrom ro fn a b d)) ∧ Below w.heap.size w wr) (fun i _ => q - (intOf i).toNat)
  case atStart => exact ⟨0, by omega, rfl, hown', hb20⟩
  case round =>
    obtain ⟨d, hd, rfl, hrow, hbw⟩ := hrel
    clear hown' hb20
    by_cases hlt : fn + d < q
    · have hcell := (hbw.cell (p := ⟨bo, offo + (fn + d), none⟩) hbo).trans (HcB.out (fn + d) (by rw [Hlb.out]; exact hlt))
      have hval : a1 (swapFrom ro fn a b d) (fn + d) = a1 ro (fn + d) := by rw [swapFrom_at _ _ _ _ _ (by rw [Hlb.out]; exact hlt), if_neg (by omega)]
      have hst := row1_store hrow (k := fn + d) (by rw [swapFrom_len, Hlb.out]; exact hlt) (sw2 a b (a1 ro (fn + d)))
      have hmine := row1_a hrow (k := fn + d) (by rw [swapFrom_len, Hlb.out]; exact hlt)
      have hfr := fun j => hrow.frozenAt j
      obtain ⟨x, hx⟩ : ∃ x, a1 ro (fn + d) = x := ⟨_, rfl⟩
      have Hnx := hideIt (show (swapFrom ro fn a b d).set (fn + d) (sw2 a b x) = swapFrom ro fn a b (d + 1) by rw [swapFrom, hx])
      have Hkp := hideIt (show sw2 a b x = x → swapFrom ro fn a b d = swapFrom ro fn a b (d + 1) from fun h => by
        rw [swapFrom, hx, h, ← hx, ← hval]
        have hlen : fn + d < (swapFrom ro fn a b d).length := by rw [swapFrom_len, Hlb.out]; exact hlt
        rw [a1, List.getD_eq_getElem?_getD, List.getElem?_eq_getElem hlen]
        simp)
      rw [hx] at hcell hst
      rw [Hnx.out] at hst
      have hsb := below_store (i := fn + d) (n := 0) (base := 0) (t := 0) (size := 0) (v := .bool true) (xs := []) (w' := w) hbw hg00
      clear hval hx
      by_cases e1 : x = a
      · subst e1
        have hsw : sw2 x b x = b := by simp [sw2]
        rw [hsw] at hst
        clear hsw
        go_wp2
        go_roundw
        case rel => exact ⟨d + 1, by omega, by go_num, hst, hsb _⟩
        case measure => simp [intOf]; omega
      · by_cases e2 : x = b
        · subst e2
          have hsw : sw2 a x x = a := by simp [sw2, e1]
          rw [hsw] at hst
          have hd1 : (x == a) = false := by simp [e1]
          clear hsw e1
          go_wp2
          go_roundw
          case rel => exact ⟨d + 1, by omega, by go_num, hst, hsb _⟩
          case measure => simp [intOf]; omega
        · have hsw : sw2 a b x = x := by simp [sw2, e1, e2]
          have Hkp' := hideIt (Hkp.out hsw)
          have hd1 : (x == a) = false := by simp [e1]
          have hd2 : (x == b) = false := by simp [e2]
          clear hsw e1 e2 hst hsb
          go_wp2
          go_roundw
          case rel => exact ⟨d + 1, by omega, by go_num, by rw [← Hkp'.out]; exact hrow, hbw⟩
          case measure => simp [intOf]; omega
    · have hdq : fn + d = q := by omega
      rw [show d = q - fn by omega, Hsub.out] at hrow
      go_wp2_with fail
      refine (specRosterValid_any _ _ _ _ _ _ _ _ _ _ _ Hl.out hm (hr.below hbw (Nat.le_refl _)) Hlen.out hq (Rd.of_own hrow) Hok.out).mono ?_
      rintro e w3 ⟨rfl, hb3⟩
      have hrow3 := own_below hrow hb3 (Nat.le_refl _)
      have hbw3 := hbw.trans (hb3.mono hbw.size)
      cases ok
      · go_wp2
        go_ret2
        rw [HX0.out (by trivial)]
        exact ⟨_, _, rfl, own_base (own_empty w3 3 1) hbw3.size, hbw3.alloc hbw3.size _⟩
      · go_wp2
        go_ret2
        rw [HX1.out (by trivial), Hlen.out]
        exact ⟨_, _, rfl, own_base hrow3 hb1.size, hbw3⟩
end Go.Proofs.Ytpcmkegogcffiaa
